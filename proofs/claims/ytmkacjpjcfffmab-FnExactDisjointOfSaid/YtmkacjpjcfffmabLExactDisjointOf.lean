/- The law FnExactDisjointOf. No condition. -/
import Derived.Test.YtmkacjpjcfffmabW49
import Derived.Test.YtmkacjpjcfffmabBox
import Derived.Test.YtmkacjpjcfffmabOpen
import Derived.Test.YtmkacjpjcfffmabReg
namespace Go.Proofs.Ytmkacjpjcfffmab
open Go.ChangeShapes Go.WideShapes Go.ChangeAt Go.RowKit
open Go.ChangeMaps (open_string shut_string)
set_option linter.unusedVariables false

theorem both_FnExactDisjointOf (n0 : Int) (xs0 : List Int) (n1 : Int) (xs1 : List Int) (hl0 : xs0.length ≤ 1048576) (hl1 : xs1.length ≤ 1048576) : ∃ (N : Int) (XS : List Int) (B : Bool), XS.length ≤ 1073741824 ∧
    (∀ (W : World) (u0 u1 : Value), IntsAt W W.heap.size u0 xs0 → IntsAt W W.heap.size u1 xs1 → Calls Try.prog 31 #[.agg #[.int .i64 n0, u0], .agg #[.int .i64 n1, u1]] W fun e w' => RetCB 3 W N XS B e w') ∧
    (∀ (W : World) (u0 u1 : Value), IntsAt W W.heap.size u0 xs0 → IntsAt W W.heap.size u1 xs1 → Calls Try.prog 32 #[.agg #[.int .i64 n0, u0], .agg #[.int .i64 n1, u1]] W fun e w' => RetCB 3 W N XS B e w') :=
  ⟨cbN (joinOk n0 n1 xs0 xs1) (n0 + n1), cbXs (joinOk n0 n1 xs0 xs1) (maxOf (faceP (disL n0 xs0 xs1))), joinOk n0 n1 xs0 xs1, cbXs_len _ (maxOf_len _), fun W u0 u1 h0 h1 => disjointOfS n0 u0 xs0 n1 u1 xs1 W h0 h1 hl0 hl1, fun W u0 u1 h0 h1 => disjointOfI n0 u0 xs0 n1 u1 xs1 W h0 h1 hl0 hl1⟩

set_option maxHeartbeats 3200000 in
set_option maxRecDepth 100000 in
theorem walk_FnExactDisjointOf (w : World) (n0 : Int) (u0 : Value) (xs0 : List Int) (rd0 : IntsAt w w.heap.size u0 xs0) (bl0 : xs0.length ≤ 9223372036854775807) (bn0 : -9223372036854775808 ≤ n0 ∧ n0 ≤ 9223372036854775807) (bx0 : ∀ x ∈ xs0, -9223372036854775808 ≤ x ∧ x ≤ 9223372036854775807) (n1 : Int) (u1 : Value) (xs1 : List Int) (rd1 : IntsAt w w.heap.size u1 xs1) (bl1 : xs1.length ≤ 9223372036854775807) (bn1 : -9223372036854775808 ≤ n1 ∧ n1 ≤ 9223372036854775807) (bx1 : ∀ x ∈ xs1, -9223372036854775808 ≤ x ∧ x ≤ 9223372036854775807) : Calls Try.prog 9 #[.agg #[.int .i64 n0, u0], .agg #[.int .i64 n1, u1]] w fun e w' => RetB w true e w' := by
  obtain ⟨A0, k0, rfl⟩ := reads_shape rd0
  obtain ⟨A1, k1, rfl⟩ := reads_shape rd1
  obtain ⟨w1, hW1, at1, b1, z1⟩ := boxC w (.int .i64 n0) (.slice A0 xs0.length k0) 24
  obtain ⟨w2, hW2, at2, b2, z2⟩ := boxC w1 (.int .i64 n1) (.slice A1 xs1.length k1) 24
  have b02 := nxt b1 b2
  have Rd0 := hide (now_ rd0 b02)
  have Rd1 := hide (now_ rd1 b02)
  have B1 := hide b02
  have at1 := at1.to b2
  have At1 := hide at1
  have At2 := hide at2
  obtain ⟨e1_0, e1_1⟩ := at1
  obtain ⟨e2_0, e2_1⟩ := at2
  have Z1 := hide z1
  have Z2 := hide z2
  clear rd0 rd1 b1 b2 b02 z1 z2
  by_cases hgd : 1048576 < xs0.length
  · go_enter Try.func9, Try.ntmps9
    go_wp2_with fail
    clear hW1 hW2
    refine (szComplex_any n0 _ xs0 _ w2 Rd0.out (by omega) (by omega) (by omega)).mono ?_
    rw [if_pos (show (1048576 : Int) < xs0.length by omega)]
    rintro e w3 ⟨rfl, b3⟩
    have B := hide (nxt B1.out b3)
    go_wp2
    go_ret
    exact ⟨rfl, B.out⟩
  have hgd2 : xs0.length ≤ 1048576 := by omega
  clear hgd
  by_cases hgd : 1048576 < xs0.length + xs1.length
  · go_enter Try.func9, Try.ntmps9
    go_wp2_with fail
    clear hW1 hW2
    refine (szComplex_any n0 _ xs0 _ w2 Rd0.out (by omega) (by omega) (by omega)).mono ?_
    rw [if_neg (show ¬ (1048576 : Int) < xs0.length by omega)]
    rintro e w3 ⟨rfl, b3⟩
    have b03 := nxt B1.out b3
    have Rd1b := hide (now_ Rd1.out b3)
    obtain ⟨e3_0, e3_1⟩ := At2.out.to b3
    have B03 := hide b03
    clear e1_0 e1_1 e2_0 e2_1 b3 b03
    go_wp2_with fail
    refine (szComplex_any n1 _ xs1 _ w3 Rd1b.out (by omega) (by omega) (by omega)).mono ?_
    rw [if_pos (show (1048576 - xs0.length : Int) < xs1.length by omega)]
    rintro e w4 ⟨rfl, b4⟩
    have B := hide (nxt B03.out b4)
    go_wp2
    go_ret
    exact ⟨rfl, B.out⟩
  have hgd3 : xs0.length + xs1.length ≤ 1048576 := by omega
  have hgd4 : xs1.length ≤ 1048576 := by omega
  clear hgd
  obtain ⟨N, XS, B, hXl, hS, hI⟩ := both_FnExactDisjointOf n0 xs0 n1 xs1 hgd2 hgd4
  go_enter Try.func9, Try.ntmps9
  go_wp2_with fail
  clear hW1 hW2
  have c_2 : Hid (Below w2.heap.size w2 w2) := Below.refl _ _
  have p0_2 : Hid (AtC w2 w.heap.size (.int .i64 n0) (.slice A0 xs0.length k0)) := At1
  obtain ⟨vp0_2_0, vp0_2_1⟩ := p0_2.out
  have p1_2 : Hid (AtC w2 w1.heap.size (.int .i64 n1) (.slice A1 xs1.length k1)) := At2
  obtain ⟨vp1_2_0, vp1_2_1⟩ := p1_2.out
  clear e1_0 e1_1 e2_0 e2_1 At1 At2
  refine (szComplex_any n0 _ xs0 _ w2 Rd0.out (by omega) (by omega) (by omega)).mono ?_
  rw [if_neg (show ¬ (1048576 : Int) < xs0.length by omega)]
  rintro e w3 ⟨rfl, b3⟩
  clear vp0_2_0 vp0_2_1 vp1_2_0 vp1_2_1
  have c_3 : Hid (Below w2.heap.size w2 w3) := b3
  have p0_3 : Hid (AtC w3 w.heap.size (.int .i64 n0) (.slice A0 xs0.length k0)) := AtC.to p0_2.out b3
  have p1_3 : Hid (AtC w3 w1.heap.size (.int .i64 n1) (.slice A1 xs1.length k1)) := AtC.to p1_2.out b3
  clear c_2 p0_2 p1_2
  obtain ⟨vp0_3_0, vp0_3_1⟩ := p0_3.out
  obtain ⟨vp1_3_0, vp1_3_1⟩ := p1_3.out
  clear b3
  go_wp2_with fail
  refine (szComplex_any n1 _ xs1 _ w3 (now_ Rd1.out c_3.out) (by omega) (by omega) (by omega)).mono ?_
  rw [if_neg (show ¬ (1048576 - xs0.length : Int) < xs1.length by omega)]
  rintro e w4 ⟨rfl, b4⟩
  clear vp0_3_0 vp0_3_1 vp1_3_0 vp1_3_1
  have c_4 : Hid (Below w2.heap.size w2 w4) := nxt c_3.out b4
  have p0_4 : Hid (AtC w4 w.heap.size (.int .i64 n0) (.slice A0 xs0.length k0)) := AtC.to p0_3.out b4
  have p1_4 : Hid (AtC w4 w1.heap.size (.int .i64 n1) (.slice A1 xs1.length k1)) := AtC.to p1_3.out b4
  clear c_3 p0_3 p1_3
  obtain ⟨vp0_4_0, vp0_4_1⟩ := p0_4.out
  obtain ⟨vp1_4_0, vp1_4_1⟩ := p1_4.out
  clear b4
  go_upto_region 8 with fail
  go_cut [6, 7] (fun sp sb wx => ∃ (A : Option Addr) (c g : Nat), sp = .pointer (some ⟨g, 0, none⟩) ∧ sb = .bool B ∧ Hid (Below w4.heap.size w4 wx) ∧ Hid (OwnV 3 wx w4.heap.size (.slice A XS.length c) (ints XS)) ∧ Hid (AtC wx g (.int .i64 N) (.slice A XS.length c)))
  case first =>
    have hS5 : Hid (∀ X : World, Below w4.heap.size w4 X → ((X.cell? ⟨w.heap.size, 0, none⟩ = some (.int .i64 n0) ∧ X.cell? ⟨w.heap.size, 1, none⟩ = some (.slice A0 xs0.length k0)) ∧ (X.cell? ⟨w1.heap.size, 0, none⟩ = some (.int .i64 n1) ∧ X.cell? ⟨w1.heap.size, 1, none⟩ = some (.slice A1 xs1.length k1)) ∧ Hid (Below w4.heap.size w4 X))) := fun X h => ⟨AtC.to p0_4.out h, AtC.to p1_4.out h, h⟩
    have rq0 := hide (now_ Rd0.out c_4.out)
    have rq1 := hide (now_ Rd1.out c_4.out)
    have hb0_5 : Below w4.heap.size w4 w4.drew := (Below.refl _ _).drew
    have hb1_5 : Below w4.heap.size w4 (w4.alloc (.cells #[.int .i64 0, .slice none 0 0] 27)).drew := (below_alloc w4 _).drew
    have hR0_5 := resg_newD (B := w4.heap.size) w4 27 (Nat.le_refl _)
    go_region_held3 (fun X => ((X.cell? ⟨w.heap.size, 0, none⟩ = some (.int .i64 n0) ∧ X.cell? ⟨w.heap.size, 1, none⟩ = some (.slice A0 xs0.length k0)) ∧ (X.cell? ⟨w1.heap.size, 0, none⟩ = some (.int .i64 n1) ∧ X.cell? ⟨w1.heap.size, 1, none⟩ = some (.slice A1 xs1.length k1)) ∧ Hid (Below w4.heap.size w4 X))) (first | with_reducible exact hS5.out _ (by assumption) | with_reducible exact hS5.out _ (below_allocD hbx _) | with_reducible exact hS5.out _ (below_store hbx hRx2 _ _) | go_keep) (first | (go_at_call 13; rename_i hSx _ _; (try (have oqp := oq; have oqpa := oqa)); (first | (go_fit (toComplex_any n0 _ xs0 _ (now_ rq0.out hSx.2.2) (by omega)); rintro e wq5 ⟨vq, rfl, oq, bq⟩) | (go_fit (toComplex_any n1 _ xs1 _ (now_ rq1.out hSx.2.2) (by omega)); rintro e wq5 ⟨vq, rfl, oq, bq⟩)); (try (have oc := own_below oqp bq; have oca := own_below oc (below_alloc wq5 (.cells #[.int .i64 0, .slice none 0 0] 27)))); (try (have oc := own_below oqpa bq; have oca := own_below oc (below_alloc wq5 (.cells #[.int .i64 0, .slice none 0 0] 27)))); have oqa := own_below oq (below_alloc wq5 (.cells #[.int .i64 0, .slice none 0 0] 27)); have hbx := nxt hSx.2.2 bq; (try (have hRx := ResG.to (by assumption : ResG w4.heap.size _ _) bq; have hRx2 := hRx.2; obtain ⟨⟨_, _, hr0, hr1⟩, hf0, hf1⟩ := hRx.1)); have hRy := resg_new (B := w4.heap.size) wq5 27 hbx.size; have hby := below_allocD hbx (.cells #[.int .i64 0, .slice none 0 0] 27)) | (go_at_call 31; rename_i hSx _ _; refine (hS _ _ _ (by first | with_reducible exact own_reads oq | with_reducible exact own_reads oqa | with_reducible exact own_reads oc | with_reducible exact own_reads oca) (by first | with_reducible exact own_reads oq | with_reducible exact own_reads oqa | with_reducible exact own_reads oc | with_reducible exact own_reads oca)).mono ?_; rintro e w5 ⟨v5, rfl, o5, bq⟩; obtain ⟨A5, c5, rfl⟩ := own_shape o5; have om5 := own_mono o5 hSx.2.2.size; have far5 := fun j hj => (own_block o5 j hj).1; (try (have hlx := ResG.ltB (by assumption : ResG w4.heap.size _ _) bq)); have hbx := nxt hSx.2.2 bq; (try (have hRx := ResG.to (by assumption : ResG w4.heap.size _ _) bq; have hRx2 := hRx.2; obtain ⟨⟨_, _, hr0, hr1⟩, hf0, hf1⟩ := hRx.1)); have hRy := resg_new (B := w4.heap.size) w5 27 hbx.size; have hby := below_allocD hbx (.cells #[.int .i64 0, .slice none 0 0] 27)))
    all_goals (
      go_wp2_with fail
      go_meet
      first | exact ⟨_, _, _, rfl, rfl, below_allocD (by assumption) _, own_below om5 (below_alloc _ _), ⟨World.cell?_alloc_at _ _ _ _ rfl, World.cell?_alloc_at _ _ _ _ rfl⟩⟩ | exact ⟨_, _, _, rfl, rfl, below_store (by assumption) hRx.2 _ _, own_stored om5 far5 hlx _ _, hRx.1.stored _ _⟩)
  case rest =>
    obtain ⟨AW, cW, gW, rfl, rfl, hC, hO, hA⟩ := hcut
    generalize hwc : wc = w5 at hC hO hA ⊢
    clear hwc
    have b5 := hC.out
    clear hC
    clear vp0_4_0 vp0_4_1 vp1_4_0 vp1_4_1
    have c_5 : Hid (Below w2.heap.size w2 w5) := nxt c_4.out b5
    have p0_5 : Hid (AtC w5 w.heap.size (.int .i64 n0) (.slice A0 xs0.length k0)) := AtC.to p0_4.out b5
    have p1_5 : Hid (AtC w5 w1.heap.size (.int .i64 n1) (.slice A1 xs1.length k1)) := AtC.to p1_4.out b5
    clear c_4 p0_4 p1_4
    obtain ⟨vp0_5_0, vp0_5_1⟩ := p0_5.out
    obtain ⟨vp1_5_0, vp1_5_1⟩ := p1_5.out
    clear b5
    have W_5 := hO
    have bW_5 := hA
    clear hO hA
    obtain ⟨vbW_5_0, vbW_5_1⟩ := bW_5.out
    go_wp2_with fail
    have lt_W_x0 : Hid (∀ j, Value.ownBlock (.slice AW XS.length cW) = some j → j < w5.heap.size) := fun j hj => (own_block W_5.out j hj).2
    have z_c_x0 : Hid (w2.heap.size ≤ w5.heap.size) := c_5.out.size
    have bl_p0_x0 : Hid (w.heap.size < w5.heap.size) := p0_5.out.lt
    have bl_p1_x0 : Hid (w1.heap.size < w5.heap.size) := p1_5.out.lt
    have bl_bW_x0 : Hid (gW < w5.heap.size) := bW_5.out.lt
    refine (toComplex_any n0 _ xs0 w5 (now_ Rd0.out c_5.out) (by omega)).mono ?_
    rintro e w6 ⟨vx0, rfl, ox0, b6⟩
    clear vp0_5_0 vp0_5_1 vp1_5_0 vp1_5_1 vbW_5_0 vbW_5_1
    have c_6 : Hid (Below w2.heap.size w2 w6) := nxt c_5.out b6
    have p0_6 : Hid (AtC w6 w.heap.size (.int .i64 n0) (.slice A0 xs0.length k0)) := AtC.to p0_5.out b6
    have p1_6 : Hid (AtC w6 w1.heap.size (.int .i64 n1) (.slice A1 xs1.length k1)) := AtC.to p1_5.out b6
    have W_6 : Hid (OwnV 3 w6 w4.heap.size (.slice AW XS.length cW) (ints XS)) := own_below W_5.out b6
    have bW_6 : Hid (AtC w6 gW (.int .i64 N) (.slice AW XS.length cW)) := AtC.to bW_5.out b6
    clear c_5 p0_5 p1_5 W_5 bW_5
    obtain ⟨vp0_6_0, vp0_6_1⟩ := p0_6.out
    obtain ⟨vp1_6_0, vp1_6_1⟩ := p1_6.out
    obtain ⟨vbW_6_0, vbW_6_1⟩ := bW_6.out
    obtain ⟨Ax0, cx0, rfl⟩ := own_shape ox0
    have x0_6 : Hid (OwnV 3 w6 w5.heap.size (.slice Ax0 xs0.length cx0) (ints xs0)) := ox0
    clear ox0 b6
    have lt_W_bx0 : Hid (∀ j, Value.ownBlock (.slice AW XS.length cW) = some j → j < w6.heap.size) := fun j hj => (own_block W_6.out j hj).2
    have lt_x0_bx0 : Hid (∀ j, Value.ownBlock (.slice Ax0 xs0.length cx0) = some j → j < w6.heap.size) := fun j hj => (own_block x0_6.out j hj).2
    obtain ⟨w7, hW7, atbx0, b7, z7⟩ := boxC w6 (.int .i64 n0) (.slice Ax0 xs0.length cx0) 27
    have c_7 : Hid (Below w2.heap.size w2 w7) := nxt c_6.out b7
    have p0_7 : Hid (AtC w7 w.heap.size (.int .i64 n0) (.slice A0 xs0.length k0)) := AtC.to p0_6.out b7
    have p1_7 : Hid (AtC w7 w1.heap.size (.int .i64 n1) (.slice A1 xs1.length k1)) := AtC.to p1_6.out b7
    have W_7 : Hid (OwnV 3 w7 w4.heap.size (.slice AW XS.length cW) (ints XS)) := own_below W_6.out b7
    have bW_7 : Hid (AtC w7 gW (.int .i64 N) (.slice AW XS.length cW)) := AtC.to bW_6.out b7
    have x0_7 : Hid (OwnV 3 w7 w5.heap.size (.slice Ax0 xs0.length cx0) (ints xs0)) := own_below x0_6.out b7
    clear c_6 p0_6 p1_6 W_6 bW_6 x0_6
    obtain ⟨vp0_7_0, vp0_7_1⟩ := p0_7.out
    obtain ⟨vp1_7_0, vp1_7_1⟩ := p1_7.out
    obtain ⟨vbW_7_0, vbW_7_1⟩ := bW_7.out
    have bx0_7 : Hid (AtC w7 w6.heap.size (.int .i64 n0) (.slice Ax0 xs0.length cx0)) := atbx0
    obtain ⟨vbx0_7_0, vbx0_7_1⟩ := bx0_7.out
    clear atbx0 b7
    go_wp2_with fail
    clear vp0_6_0 vp0_6_1 vp1_6_0 vp1_6_1 vbW_6_0 vbW_6_1 hW7
    have lt_W_x1 : Hid (∀ j, Value.ownBlock (.slice AW XS.length cW) = some j → j < w7.heap.size) := fun j hj => (own_block W_7.out j hj).2
    have lt_x0_x1 : Hid (∀ j, Value.ownBlock (.slice Ax0 xs0.length cx0) = some j → j < w7.heap.size) := fun j hj => (own_block x0_7.out j hj).2
    have z_c_x1 : Hid (w2.heap.size ≤ w7.heap.size) := c_7.out.size
    have bl_p0_x1 : Hid (w.heap.size < w7.heap.size) := p0_7.out.lt
    have bl_p1_x1 : Hid (w1.heap.size < w7.heap.size) := p1_7.out.lt
    have bl_bW_x1 : Hid (gW < w7.heap.size) := bW_7.out.lt
    have bl_bx0_x1 : Hid (w6.heap.size < w7.heap.size) := bx0_7.out.lt
    refine (toComplex_any n1 _ xs1 w7 (now_ Rd1.out c_7.out) (by omega)).mono ?_
    rintro e w8 ⟨vx1, rfl, ox1, b8⟩
    clear vp0_7_0 vp0_7_1 vp1_7_0 vp1_7_1 vbW_7_0 vbW_7_1 vbx0_7_0 vbx0_7_1
    have c_8 : Hid (Below w2.heap.size w2 w8) := nxt c_7.out b8
    have p0_8 : Hid (AtC w8 w.heap.size (.int .i64 n0) (.slice A0 xs0.length k0)) := AtC.to p0_7.out b8
    have p1_8 : Hid (AtC w8 w1.heap.size (.int .i64 n1) (.slice A1 xs1.length k1)) := AtC.to p1_7.out b8
    have W_8 : Hid (OwnV 3 w8 w4.heap.size (.slice AW XS.length cW) (ints XS)) := own_below W_7.out b8
    have bW_8 : Hid (AtC w8 gW (.int .i64 N) (.slice AW XS.length cW)) := AtC.to bW_7.out b8
    have x0_8 : Hid (OwnV 3 w8 w5.heap.size (.slice Ax0 xs0.length cx0) (ints xs0)) := own_below x0_7.out b8
    have bx0_8 : Hid (AtC w8 w6.heap.size (.int .i64 n0) (.slice Ax0 xs0.length cx0)) := AtC.to bx0_7.out b8
    clear c_7 p0_7 p1_7 W_7 bW_7 x0_7 bx0_7
    obtain ⟨vp0_8_0, vp0_8_1⟩ := p0_8.out
    obtain ⟨vp1_8_0, vp1_8_1⟩ := p1_8.out
    obtain ⟨vbW_8_0, vbW_8_1⟩ := bW_8.out
    obtain ⟨vbx0_8_0, vbx0_8_1⟩ := bx0_8.out
    obtain ⟨Ax1, cx1, rfl⟩ := own_shape ox1
    have x1_8 : Hid (OwnV 3 w8 w7.heap.size (.slice Ax1 xs1.length cx1) (ints xs1)) := ox1
    clear ox1 b8
    have lt_W_bx1 : Hid (∀ j, Value.ownBlock (.slice AW XS.length cW) = some j → j < w8.heap.size) := fun j hj => (own_block W_8.out j hj).2
    have lt_x0_bx1 : Hid (∀ j, Value.ownBlock (.slice Ax0 xs0.length cx0) = some j → j < w8.heap.size) := fun j hj => (own_block x0_8.out j hj).2
    have lt_x1_bx1 : Hid (∀ j, Value.ownBlock (.slice Ax1 xs1.length cx1) = some j → j < w8.heap.size) := fun j hj => (own_block x1_8.out j hj).2
    obtain ⟨w9, hW9, atbx1, b9, z9⟩ := boxC w8 (.int .i64 n1) (.slice Ax1 xs1.length cx1) 27
    have c_9 : Hid (Below w2.heap.size w2 w9) := nxt c_8.out b9
    have p0_9 : Hid (AtC w9 w.heap.size (.int .i64 n0) (.slice A0 xs0.length k0)) := AtC.to p0_8.out b9
    have p1_9 : Hid (AtC w9 w1.heap.size (.int .i64 n1) (.slice A1 xs1.length k1)) := AtC.to p1_8.out b9
    have W_9 : Hid (OwnV 3 w9 w4.heap.size (.slice AW XS.length cW) (ints XS)) := own_below W_8.out b9
    have bW_9 : Hid (AtC w9 gW (.int .i64 N) (.slice AW XS.length cW)) := AtC.to bW_8.out b9
    have x0_9 : Hid (OwnV 3 w9 w5.heap.size (.slice Ax0 xs0.length cx0) (ints xs0)) := own_below x0_8.out b9
    have bx0_9 : Hid (AtC w9 w6.heap.size (.int .i64 n0) (.slice Ax0 xs0.length cx0)) := AtC.to bx0_8.out b9
    have x1_9 : Hid (OwnV 3 w9 w7.heap.size (.slice Ax1 xs1.length cx1) (ints xs1)) := own_below x1_8.out b9
    clear c_8 p0_8 p1_8 W_8 bW_8 x0_8 bx0_8 x1_8
    obtain ⟨vp0_9_0, vp0_9_1⟩ := p0_9.out
    obtain ⟨vp1_9_0, vp1_9_1⟩ := p1_9.out
    obtain ⟨vbW_9_0, vbW_9_1⟩ := bW_9.out
    obtain ⟨vbx0_9_0, vbx0_9_1⟩ := bx0_9.out
    have bx1_9 : Hid (AtC w9 w8.heap.size (.int .i64 n1) (.slice Ax1 xs1.length cx1)) := atbx1
    obtain ⟨vbx1_9_0, vbx1_9_1⟩ := bx1_9.out
    clear atbx1 b9
    go_wp2_with fail
    clear vp0_8_0 vp0_8_1 vp1_8_0 vp1_8_1 vbW_8_0 vbW_8_1 vbx0_8_0 vbx0_8_1 hW9
    have lt_W_G : Hid (∀ j, Value.ownBlock (.slice AW XS.length cW) = some j → j < w9.heap.size) := fun j hj => (own_block W_9.out j hj).2
    have lt_x0_G : Hid (∀ j, Value.ownBlock (.slice Ax0 xs0.length cx0) = some j → j < w9.heap.size) := fun j hj => (own_block x0_9.out j hj).2
    have lt_x1_G : Hid (∀ j, Value.ownBlock (.slice Ax1 xs1.length cx1) = some j → j < w9.heap.size) := fun j hj => (own_block x1_9.out j hj).2
    have z_c_G : Hid (w2.heap.size ≤ w9.heap.size) := c_9.out.size
    have bl_p0_G : Hid (w.heap.size < w9.heap.size) := p0_9.out.lt
    have bl_p1_G : Hid (w1.heap.size < w9.heap.size) := p1_9.out.lt
    have bl_bW_G : Hid (gW < w9.heap.size) := bW_9.out.lt
    have bl_bx0_G : Hid (w6.heap.size < w9.heap.size) := bx0_9.out.lt
    have bl_bx1_G : Hid (w8.heap.size < w9.heap.size) := bx1_9.out.lt
    refine (hI w9 _ _ (own_reads x0_9.out) (own_reads x1_9.out)).mono ?_
    rintro e w10 ⟨vG, rfl, oG, b10⟩
    clear vp0_9_0 vp0_9_1 vp1_9_0 vp1_9_1 vbW_9_0 vbW_9_1 vbx0_9_0 vbx0_9_1 vbx1_9_0 vbx1_9_1
    have c_10 : Hid (Below w2.heap.size w2 w10) := nxt c_9.out b10
    have p0_10 : Hid (AtC w10 w.heap.size (.int .i64 n0) (.slice A0 xs0.length k0)) := AtC.to p0_9.out b10
    have p1_10 : Hid (AtC w10 w1.heap.size (.int .i64 n1) (.slice A1 xs1.length k1)) := AtC.to p1_9.out b10
    have W_10 : Hid (OwnV 3 w10 w4.heap.size (.slice AW XS.length cW) (ints XS)) := own_below W_9.out b10
    have bW_10 : Hid (AtC w10 gW (.int .i64 N) (.slice AW XS.length cW)) := AtC.to bW_9.out b10
    have x0_10 : Hid (OwnV 3 w10 w5.heap.size (.slice Ax0 xs0.length cx0) (ints xs0)) := own_below x0_9.out b10
    have bx0_10 : Hid (AtC w10 w6.heap.size (.int .i64 n0) (.slice Ax0 xs0.length cx0)) := AtC.to bx0_9.out b10
    have x1_10 : Hid (OwnV 3 w10 w7.heap.size (.slice Ax1 xs1.length cx1) (ints xs1)) := own_below x1_9.out b10
    have bx1_10 : Hid (AtC w10 w8.heap.size (.int .i64 n1) (.slice Ax1 xs1.length cx1)) := AtC.to bx1_9.out b10
    clear c_9 p0_9 p1_9 W_9 bW_9 x0_9 bx0_9 x1_9 bx1_9
    obtain ⟨vp0_10_0, vp0_10_1⟩ := p0_10.out
    obtain ⟨vp1_10_0, vp1_10_1⟩ := p1_10.out
    obtain ⟨vbW_10_0, vbW_10_1⟩ := bW_10.out
    obtain ⟨vbx0_10_0, vbx0_10_1⟩ := bx0_10.out
    obtain ⟨vbx1_10_0, vbx1_10_1⟩ := bx1_10.out
    obtain ⟨AG, cG, rfl⟩ := own_shape oG
    have G_10 : Hid (OwnV 3 w10 w9.heap.size (.slice AG XS.length cG) (ints XS)) := oG
    clear oG b10
    have lt_W_bG : Hid (∀ j, Value.ownBlock (.slice AW XS.length cW) = some j → j < w10.heap.size) := fun j hj => (own_block W_10.out j hj).2
    have lt_x0_bG : Hid (∀ j, Value.ownBlock (.slice Ax0 xs0.length cx0) = some j → j < w10.heap.size) := fun j hj => (own_block x0_10.out j hj).2
    have lt_x1_bG : Hid (∀ j, Value.ownBlock (.slice Ax1 xs1.length cx1) = some j → j < w10.heap.size) := fun j hj => (own_block x1_10.out j hj).2
    have lt_G_bG : Hid (∀ j, Value.ownBlock (.slice AG XS.length cG) = some j → j < w10.heap.size) := fun j hj => (own_block G_10.out j hj).2
    obtain ⟨w11, hW11, atbG, b11, z11⟩ := boxC w10 (.int .i64 N) (.slice AG XS.length cG) 27
    have c_11 : Hid (Below w2.heap.size w2 w11) := nxt c_10.out b11
    have p0_11 : Hid (AtC w11 w.heap.size (.int .i64 n0) (.slice A0 xs0.length k0)) := AtC.to p0_10.out b11
    have p1_11 : Hid (AtC w11 w1.heap.size (.int .i64 n1) (.slice A1 xs1.length k1)) := AtC.to p1_10.out b11
    have W_11 : Hid (OwnV 3 w11 w4.heap.size (.slice AW XS.length cW) (ints XS)) := own_below W_10.out b11
    have bW_11 : Hid (AtC w11 gW (.int .i64 N) (.slice AW XS.length cW)) := AtC.to bW_10.out b11
    have x0_11 : Hid (OwnV 3 w11 w5.heap.size (.slice Ax0 xs0.length cx0) (ints xs0)) := own_below x0_10.out b11
    have bx0_11 : Hid (AtC w11 w6.heap.size (.int .i64 n0) (.slice Ax0 xs0.length cx0)) := AtC.to bx0_10.out b11
    have x1_11 : Hid (OwnV 3 w11 w7.heap.size (.slice Ax1 xs1.length cx1) (ints xs1)) := own_below x1_10.out b11
    have bx1_11 : Hid (AtC w11 w8.heap.size (.int .i64 n1) (.slice Ax1 xs1.length cx1)) := AtC.to bx1_10.out b11
    have G_11 : Hid (OwnV 3 w11 w9.heap.size (.slice AG XS.length cG) (ints XS)) := own_below G_10.out b11
    clear c_10 p0_10 p1_10 W_10 bW_10 x0_10 bx0_10 x1_10 bx1_10 G_10
    obtain ⟨vp0_11_0, vp0_11_1⟩ := p0_11.out
    obtain ⟨vp1_11_0, vp1_11_1⟩ := p1_11.out
    obtain ⟨vbW_11_0, vbW_11_1⟩ := bW_11.out
    obtain ⟨vbx0_11_0, vbx0_11_1⟩ := bx0_11.out
    obtain ⟨vbx1_11_0, vbx1_11_1⟩ := bx1_11.out
    have bG_11 : Hid (AtC w11 w10.heap.size (.int .i64 N) (.slice AG XS.length cG)) := atbG
    obtain ⟨vbG_11_0, vbG_11_1⟩ := bG_11.out
    clear atbG b11
    have hne : (B != B) = false := by simp
    go_wp2_with fail
    clear vp0_10_0 vp0_10_1 vp1_10_0 vp1_10_1 vbW_10_0 vbW_10_1 vbx0_10_0 vbx0_10_1 vbx1_10_0 vbx1_10_1 hW11
    refine (eqComplex_same N _ _ XS w11 (own_reads G_11.out) (own_reads W_11.out) (by omega)).mono ?_
    rintro e w12 ⟨rfl, b12⟩
    clear vp0_11_0 vp0_11_1 vp1_11_0 vp1_11_1 vbW_11_0 vbW_11_1 vbx0_11_0 vbx0_11_1 vbx1_11_0 vbx1_11_1 vbG_11_0 vbG_11_1
    have c_12 : Hid (Below w2.heap.size w2 w12) := nxt c_11.out b12
    have p0_12 : Hid (AtC w12 w.heap.size (.int .i64 n0) (.slice A0 xs0.length k0)) := AtC.to p0_11.out b12
    have p1_12 : Hid (AtC w12 w1.heap.size (.int .i64 n1) (.slice A1 xs1.length k1)) := AtC.to p1_11.out b12
    have W_12 : Hid (OwnV 3 w12 w4.heap.size (.slice AW XS.length cW) (ints XS)) := own_below W_11.out b12
    have bW_12 : Hid (AtC w12 gW (.int .i64 N) (.slice AW XS.length cW)) := AtC.to bW_11.out b12
    have x0_12 : Hid (OwnV 3 w12 w5.heap.size (.slice Ax0 xs0.length cx0) (ints xs0)) := own_below x0_11.out b12
    have bx0_12 : Hid (AtC w12 w6.heap.size (.int .i64 n0) (.slice Ax0 xs0.length cx0)) := AtC.to bx0_11.out b12
    have x1_12 : Hid (OwnV 3 w12 w7.heap.size (.slice Ax1 xs1.length cx1) (ints xs1)) := own_below x1_11.out b12
    have bx1_12 : Hid (AtC w12 w8.heap.size (.int .i64 n1) (.slice Ax1 xs1.length cx1)) := AtC.to bx1_11.out b12
    have G_12 : Hid (OwnV 3 w12 w9.heap.size (.slice AG XS.length cG) (ints XS)) := own_below G_11.out b12
    have bG_12 : Hid (AtC w12 w10.heap.size (.int .i64 N) (.slice AG XS.length cG)) := AtC.to bG_11.out b12
    clear c_11 p0_11 p1_11 W_11 bW_11 x0_11 bx0_11 x1_11 bx1_11 G_11 bG_11
    obtain ⟨vp0_12_0, vp0_12_1⟩ := p0_12.out
    obtain ⟨vp1_12_0, vp1_12_1⟩ := p1_12.out
    obtain ⟨vbW_12_0, vbW_12_1⟩ := bW_12.out
    obtain ⟨vbx0_12_0, vbx0_12_1⟩ := bx0_12.out
    obtain ⟨vbx1_12_0, vbx1_12_1⟩ := bx1_12.out
    obtain ⟨vbG_12_0, vbG_12_1⟩ := bG_12.out
    clear b12
    have Sx13 : Hid (Below w2.heap.size w2 w12.drew ∧ AtC w12.drew w.heap.size (.int .i64 n0) (.slice A0 xs0.length k0) ∧ AtC w12.drew w1.heap.size (.int .i64 n1) (.slice A1 xs1.length k1) ∧ OwnV 3 w12.drew w4.heap.size (.slice AW XS.length cW) (ints XS) ∧ AtC w12.drew gW (.int .i64 N) (.slice AW XS.length cW) ∧ OwnV 3 w12.drew w5.heap.size (.slice Ax0 xs0.length cx0) (ints xs0) ∧ AtC w12.drew w6.heap.size (.int .i64 n0) (.slice Ax0 xs0.length cx0) ∧ OwnV 3 w12.drew w7.heap.size (.slice Ax1 xs1.length cx1) (ints xs1) ∧ AtC w12.drew w8.heap.size (.int .i64 n1) (.slice Ax1 xs1.length cx1) ∧ OwnV 3 w12.drew w9.heap.size (.slice AG XS.length cG) (ints XS) ∧ AtC w12.drew w10.heap.size (.int .i64 N) (.slice AG XS.length cG)) := ⟨(c_12.out).drew, p0_12.out, p1_12.out, W_12.out, bW_12.out, x0_12.out, bx0_12.out, x1_12.out, bx1_12.out, G_12.out, bG_12.out⟩
    have hK13 : Hid (∀ W W' : World, (AtC W w6.heap.size (.int .i64 n0) (.slice Ax0 xs0.length cx0) ∧ AtC W w.heap.size (.int .i64 n0) (.slice A0 xs0.length k0) ∧ Hid (Below w2.heap.size w2 W ∧ AtC W w.heap.size (.int .i64 n0) (.slice A0 xs0.length k0) ∧ AtC W w1.heap.size (.int .i64 n1) (.slice A1 xs1.length k1) ∧ OwnV 3 W w4.heap.size (.slice AW XS.length cW) (ints XS) ∧ AtC W gW (.int .i64 N) (.slice AW XS.length cW) ∧ OwnV 3 W w5.heap.size (.slice Ax0 xs0.length cx0) (ints xs0) ∧ AtC W w6.heap.size (.int .i64 n0) (.slice Ax0 xs0.length cx0) ∧ OwnV 3 W w7.heap.size (.slice Ax1 xs1.length cx1) (ints xs1) ∧ AtC W w8.heap.size (.int .i64 n1) (.slice Ax1 xs1.length cx1) ∧ OwnV 3 W w9.heap.size (.slice AG XS.length cG) (ints XS) ∧ AtC W w10.heap.size (.int .i64 N) (.slice AG XS.length cG))) → Below W.heap.size W W' → (AtC W' w6.heap.size (.int .i64 n0) (.slice Ax0 xs0.length cx0) ∧ AtC W' w.heap.size (.int .i64 n0) (.slice A0 xs0.length k0) ∧ Hid (Below w2.heap.size w2 W' ∧ AtC W' w.heap.size (.int .i64 n0) (.slice A0 xs0.length k0) ∧ AtC W' w1.heap.size (.int .i64 n1) (.slice A1 xs1.length k1) ∧ OwnV 3 W' w4.heap.size (.slice AW XS.length cW) (ints XS) ∧ AtC W' gW (.int .i64 N) (.slice AW XS.length cW) ∧ OwnV 3 W' w5.heap.size (.slice Ax0 xs0.length cx0) (ints xs0) ∧ AtC W' w6.heap.size (.int .i64 n0) (.slice Ax0 xs0.length cx0) ∧ OwnV 3 W' w7.heap.size (.slice Ax1 xs1.length cx1) (ints xs1) ∧ AtC W' w8.heap.size (.int .i64 n1) (.slice Ax1 xs1.length cx1) ∧ OwnV 3 W' w9.heap.size (.slice AG XS.length cG) (ints XS) ∧ AtC W' w10.heap.size (.int .i64 N) (.slice AG XS.length cG)))) := fun W W' h k => ⟨h.1.to k, h.2.1.to k, nxt h.2.2.1 k, AtC.to h.2.2.2.1 k, AtC.to h.2.2.2.2.1 k, own_below h.2.2.2.2.2.1 k, AtC.to h.2.2.2.2.2.2.1 k, own_below h.2.2.2.2.2.2.2.1 k, AtC.to h.2.2.2.2.2.2.2.2.1 k, own_below h.2.2.2.2.2.2.2.2.2.1 k, AtC.to h.2.2.2.2.2.2.2.2.2.2.1 k, own_below h.2.2.2.2.2.2.2.2.2.2.2.1 k, AtC.to h.2.2.2.2.2.2.2.2.2.2.2.2 k⟩
    go_wp2
    go_region_held3 (fun W => ((W.cell? ⟨w6.heap.size, 0, none⟩ = some (.int .i64 n0) ∧ W.cell? ⟨w6.heap.size, 1, none⟩ = some (.slice Ax0 xs0.length cx0)) ∧ (W.cell? ⟨w.heap.size, 0, none⟩ = some (.int .i64 n0) ∧ W.cell? ⟨w.heap.size, 1, none⟩ = some (.slice A0 xs0.length k0)) ∧ Hid (Below w2.heap.size w2 W ∧ AtC W w.heap.size (.int .i64 n0) (.slice A0 xs0.length k0) ∧ AtC W w1.heap.size (.int .i64 n1) (.slice A1 xs1.length k1) ∧ OwnV 3 W w4.heap.size (.slice AW XS.length cW) (ints XS) ∧ AtC W gW (.int .i64 N) (.slice AW XS.length cW) ∧ OwnV 3 W w5.heap.size (.slice Ax0 xs0.length cx0) (ints xs0) ∧ AtC W w6.heap.size (.int .i64 n0) (.slice Ax0 xs0.length cx0) ∧ OwnV 3 W w7.heap.size (.slice Ax1 xs1.length cx1) (ints xs1) ∧ AtC W w8.heap.size (.int .i64 n1) (.slice Ax1 xs1.length cx1) ∧ OwnV 3 W w9.heap.size (.slice AG XS.length cG) (ints XS) ∧ AtC W w10.heap.size (.int .i64 N) (.slice AG XS.length cG)))) (first | exact ⟨⟨vbx0_12_0, vbx0_12_1⟩, ⟨vp0_12_0, vp0_12_1⟩, Sx13⟩ | exact hK13.out _ _ (by assumption) (by assumption) | go_keep) (first | (go_at_call 13; refine (toComplex_any n0 _ xs0 _ (by rename_i hS _ _; exact now_ Rd0.out hS.2.2.1) (by omega)).mono ?_; rintro e wq13 ⟨vq, rfl, oq, bq⟩) | (go_at_call 15; refine (eqComplex_same n0 _ _ xs0 _ (by rename_i hS _ _; exact own_reads hS.2.2.2.2.2.2.2.1) (own_reads (by assumption)) (by omega)).mono ?_; rintro e w13 ⟨rfl, bq⟩))
    rename_i hSS
    have hC := hSS.2.2
    clear vp0_12_0 vp0_12_1 vp1_12_0 vp1_12_1 vbW_12_0 vbW_12_1 vbx0_12_0 vbx0_12_1 vbx1_12_0 vbx1_12_1 vbG_12_0 vbG_12_1
    have c_13 : Hid (Below w2.heap.size w2 w13) := hC.1
    have p0_13 : Hid (AtC w13 w.heap.size (.int .i64 n0) (.slice A0 xs0.length k0)) := hC.2.1
    have p1_13 : Hid (AtC w13 w1.heap.size (.int .i64 n1) (.slice A1 xs1.length k1)) := hC.2.2.1
    have W_13 : Hid (OwnV 3 w13 w4.heap.size (.slice AW XS.length cW) (ints XS)) := hC.2.2.2.1
    have bW_13 : Hid (AtC w13 gW (.int .i64 N) (.slice AW XS.length cW)) := hC.2.2.2.2.1
    have x0_13 : Hid (OwnV 3 w13 w5.heap.size (.slice Ax0 xs0.length cx0) (ints xs0)) := hC.2.2.2.2.2.1
    have bx0_13 : Hid (AtC w13 w6.heap.size (.int .i64 n0) (.slice Ax0 xs0.length cx0)) := hC.2.2.2.2.2.2.1
    have x1_13 : Hid (OwnV 3 w13 w7.heap.size (.slice Ax1 xs1.length cx1) (ints xs1)) := hC.2.2.2.2.2.2.2.1
    have bx1_13 : Hid (AtC w13 w8.heap.size (.int .i64 n1) (.slice Ax1 xs1.length cx1)) := hC.2.2.2.2.2.2.2.2.1
    have G_13 : Hid (OwnV 3 w13 w9.heap.size (.slice AG XS.length cG) (ints XS)) := hC.2.2.2.2.2.2.2.2.2.1
    have bG_13 : Hid (AtC w13 w10.heap.size (.int .i64 N) (.slice AG XS.length cG)) := hC.2.2.2.2.2.2.2.2.2.2
    clear c_12 p0_12 p1_12 W_12 bW_12 x0_12 bx0_12 x1_12 bx1_12 G_12 bG_12 hC hSS Sx13 hK13
    obtain ⟨vp0_13_0, vp0_13_1⟩ := p0_13.out
    obtain ⟨vp1_13_0, vp1_13_1⟩ := p1_13.out
    obtain ⟨vbW_13_0, vbW_13_1⟩ := bW_13.out
    obtain ⟨vbx0_13_0, vbx0_13_1⟩ := bx0_13.out
    obtain ⟨vbx1_13_0, vbx1_13_1⟩ := bx1_13.out
    obtain ⟨vbG_13_0, vbG_13_1⟩ := bG_13.out
    have Sx14 : Hid (Below w2.heap.size w2 w13.drew ∧ AtC w13.drew w.heap.size (.int .i64 n0) (.slice A0 xs0.length k0) ∧ AtC w13.drew w1.heap.size (.int .i64 n1) (.slice A1 xs1.length k1) ∧ OwnV 3 w13.drew w4.heap.size (.slice AW XS.length cW) (ints XS) ∧ AtC w13.drew gW (.int .i64 N) (.slice AW XS.length cW) ∧ OwnV 3 w13.drew w5.heap.size (.slice Ax0 xs0.length cx0) (ints xs0) ∧ AtC w13.drew w6.heap.size (.int .i64 n0) (.slice Ax0 xs0.length cx0) ∧ OwnV 3 w13.drew w7.heap.size (.slice Ax1 xs1.length cx1) (ints xs1) ∧ AtC w13.drew w8.heap.size (.int .i64 n1) (.slice Ax1 xs1.length cx1) ∧ OwnV 3 w13.drew w9.heap.size (.slice AG XS.length cG) (ints XS) ∧ AtC w13.drew w10.heap.size (.int .i64 N) (.slice AG XS.length cG)) := ⟨(c_13.out).drew, p0_13.out, p1_13.out, W_13.out, bW_13.out, x0_13.out, bx0_13.out, x1_13.out, bx1_13.out, G_13.out, bG_13.out⟩
    have hK14 : Hid (∀ W W' : World, (AtC W w8.heap.size (.int .i64 n1) (.slice Ax1 xs1.length cx1) ∧ AtC W w1.heap.size (.int .i64 n1) (.slice A1 xs1.length k1) ∧ Hid (Below w2.heap.size w2 W ∧ AtC W w.heap.size (.int .i64 n0) (.slice A0 xs0.length k0) ∧ AtC W w1.heap.size (.int .i64 n1) (.slice A1 xs1.length k1) ∧ OwnV 3 W w4.heap.size (.slice AW XS.length cW) (ints XS) ∧ AtC W gW (.int .i64 N) (.slice AW XS.length cW) ∧ OwnV 3 W w5.heap.size (.slice Ax0 xs0.length cx0) (ints xs0) ∧ AtC W w6.heap.size (.int .i64 n0) (.slice Ax0 xs0.length cx0) ∧ OwnV 3 W w7.heap.size (.slice Ax1 xs1.length cx1) (ints xs1) ∧ AtC W w8.heap.size (.int .i64 n1) (.slice Ax1 xs1.length cx1) ∧ OwnV 3 W w9.heap.size (.slice AG XS.length cG) (ints XS) ∧ AtC W w10.heap.size (.int .i64 N) (.slice AG XS.length cG))) → Below W.heap.size W W' → (AtC W' w8.heap.size (.int .i64 n1) (.slice Ax1 xs1.length cx1) ∧ AtC W' w1.heap.size (.int .i64 n1) (.slice A1 xs1.length k1) ∧ Hid (Below w2.heap.size w2 W' ∧ AtC W' w.heap.size (.int .i64 n0) (.slice A0 xs0.length k0) ∧ AtC W' w1.heap.size (.int .i64 n1) (.slice A1 xs1.length k1) ∧ OwnV 3 W' w4.heap.size (.slice AW XS.length cW) (ints XS) ∧ AtC W' gW (.int .i64 N) (.slice AW XS.length cW) ∧ OwnV 3 W' w5.heap.size (.slice Ax0 xs0.length cx0) (ints xs0) ∧ AtC W' w6.heap.size (.int .i64 n0) (.slice Ax0 xs0.length cx0) ∧ OwnV 3 W' w7.heap.size (.slice Ax1 xs1.length cx1) (ints xs1) ∧ AtC W' w8.heap.size (.int .i64 n1) (.slice Ax1 xs1.length cx1) ∧ OwnV 3 W' w9.heap.size (.slice AG XS.length cG) (ints XS) ∧ AtC W' w10.heap.size (.int .i64 N) (.slice AG XS.length cG)))) := fun W W' h k => ⟨h.1.to k, h.2.1.to k, nxt h.2.2.1 k, AtC.to h.2.2.2.1 k, AtC.to h.2.2.2.2.1 k, own_below h.2.2.2.2.2.1 k, AtC.to h.2.2.2.2.2.2.1 k, own_below h.2.2.2.2.2.2.2.1 k, AtC.to h.2.2.2.2.2.2.2.2.1 k, own_below h.2.2.2.2.2.2.2.2.2.1 k, AtC.to h.2.2.2.2.2.2.2.2.2.2.1 k, own_below h.2.2.2.2.2.2.2.2.2.2.2.1 k, AtC.to h.2.2.2.2.2.2.2.2.2.2.2.2 k⟩
    go_wp2
    go_region_held3 (fun W => ((W.cell? ⟨w8.heap.size, 0, none⟩ = some (.int .i64 n1) ∧ W.cell? ⟨w8.heap.size, 1, none⟩ = some (.slice Ax1 xs1.length cx1)) ∧ (W.cell? ⟨w1.heap.size, 0, none⟩ = some (.int .i64 n1) ∧ W.cell? ⟨w1.heap.size, 1, none⟩ = some (.slice A1 xs1.length k1)) ∧ Hid (Below w2.heap.size w2 W ∧ AtC W w.heap.size (.int .i64 n0) (.slice A0 xs0.length k0) ∧ AtC W w1.heap.size (.int .i64 n1) (.slice A1 xs1.length k1) ∧ OwnV 3 W w4.heap.size (.slice AW XS.length cW) (ints XS) ∧ AtC W gW (.int .i64 N) (.slice AW XS.length cW) ∧ OwnV 3 W w5.heap.size (.slice Ax0 xs0.length cx0) (ints xs0) ∧ AtC W w6.heap.size (.int .i64 n0) (.slice Ax0 xs0.length cx0) ∧ OwnV 3 W w7.heap.size (.slice Ax1 xs1.length cx1) (ints xs1) ∧ AtC W w8.heap.size (.int .i64 n1) (.slice Ax1 xs1.length cx1) ∧ OwnV 3 W w9.heap.size (.slice AG XS.length cG) (ints XS) ∧ AtC W w10.heap.size (.int .i64 N) (.slice AG XS.length cG)))) (first | exact ⟨⟨vbx1_13_0, vbx1_13_1⟩, ⟨vp1_13_0, vp1_13_1⟩, Sx14⟩ | exact hK14.out _ _ (by assumption) (by assumption) | go_keep) (first | (go_at_call 13; refine (toComplex_any n1 _ xs1 _ (by rename_i hS _ _; exact now_ Rd1.out hS.2.2.1) (by omega)).mono ?_; rintro e wq14 ⟨vq, rfl, oq, bq⟩) | (go_at_call 15; refine (eqComplex_same n1 _ _ xs1 _ (by rename_i hS _ _; exact own_reads hS.2.2.2.2.2.2.2.2.2.1) (own_reads (by assumption)) (by omega)).mono ?_; rintro e w14 ⟨rfl, bq⟩))
    rename_i hSS
    have hC := hSS.2.2
    clear vp0_13_0 vp0_13_1 vp1_13_0 vp1_13_1 vbW_13_0 vbW_13_1 vbx0_13_0 vbx0_13_1 vbx1_13_0 vbx1_13_1 vbG_13_0 vbG_13_1
    have c_14 : Hid (Below w2.heap.size w2 w14) := hC.1
    have p0_14 : Hid (AtC w14 w.heap.size (.int .i64 n0) (.slice A0 xs0.length k0)) := hC.2.1
    have p1_14 : Hid (AtC w14 w1.heap.size (.int .i64 n1) (.slice A1 xs1.length k1)) := hC.2.2.1
    have W_14 : Hid (OwnV 3 w14 w4.heap.size (.slice AW XS.length cW) (ints XS)) := hC.2.2.2.1
    have bW_14 : Hid (AtC w14 gW (.int .i64 N) (.slice AW XS.length cW)) := hC.2.2.2.2.1
    have x0_14 : Hid (OwnV 3 w14 w5.heap.size (.slice Ax0 xs0.length cx0) (ints xs0)) := hC.2.2.2.2.2.1
    have bx0_14 : Hid (AtC w14 w6.heap.size (.int .i64 n0) (.slice Ax0 xs0.length cx0)) := hC.2.2.2.2.2.2.1
    have x1_14 : Hid (OwnV 3 w14 w7.heap.size (.slice Ax1 xs1.length cx1) (ints xs1)) := hC.2.2.2.2.2.2.2.1
    have bx1_14 : Hid (AtC w14 w8.heap.size (.int .i64 n1) (.slice Ax1 xs1.length cx1)) := hC.2.2.2.2.2.2.2.2.1
    have G_14 : Hid (OwnV 3 w14 w9.heap.size (.slice AG XS.length cG) (ints XS)) := hC.2.2.2.2.2.2.2.2.2.1
    have bG_14 : Hid (AtC w14 w10.heap.size (.int .i64 N) (.slice AG XS.length cG)) := hC.2.2.2.2.2.2.2.2.2.2
    clear c_13 p0_13 p1_13 W_13 bW_13 x0_13 bx0_13 x1_13 bx1_13 G_13 bG_13 hC hSS Sx14 hK14
    obtain ⟨vp0_14_0, vp0_14_1⟩ := p0_14.out
    obtain ⟨vp1_14_0, vp1_14_1⟩ := p1_14.out
    obtain ⟨vbW_14_0, vbW_14_1⟩ := bW_14.out
    obtain ⟨vbx0_14_0, vbx0_14_1⟩ := bx0_14.out
    obtain ⟨vbx1_14_0, vbx1_14_1⟩ := bx1_14.out
    obtain ⟨vbG_14_0, vbG_14_1⟩ := bG_14.out
    go_wp2_with fail
    refine (markComplex_any n0 _ xs0 1 w14 x0_14.out (by omega) (by omega) (by omega)).mono ?_
    rintro e w15 ⟨rfl, oq15, g15⟩
    clear vp0_14_0 vp0_14_1 vp1_14_0 vp1_14_1 vbW_14_0 vbW_14_1 vbx0_14_0 vbx0_14_1 vbx1_14_0 vbx1_14_1 vbG_14_0 vbG_14_1
    have c_15 : Hid (Below w2.heap.size w2 w15) := (c_14.out).trans (grown_below g15 (c_14.out).size (fun j hj => Nat.le_trans z_c_x0.out (own_block x0_14.out j hj).1))
    have p0_15 : Hid (AtC w15 w.heap.size (.int .i64 n0) (.slice A0 xs0.length k0)) := AtC.grown p0_14.out g15 (fun e => by have h1 := bl_p0_x0.out; have h2 := (own_block x0_14.out _ e).1; omega)
    have p1_15 : Hid (AtC w15 w1.heap.size (.int .i64 n1) (.slice A1 xs1.length k1)) := AtC.grown p1_14.out g15 (fun e => by have h1 := bl_p1_x0.out; have h2 := (own_block x0_14.out _ e).1; omega)
    have W_15 : Hid (OwnV 3 w15 w4.heap.size (.slice AW XS.length cW) (ints XS)) := own_grown W_14.out g15 (fun j hj e => by have h1 := lt_W_x0.out j hj; have h2 := (own_block x0_14.out j e).1; omega)
    have bW_15 : Hid (AtC w15 gW (.int .i64 N) (.slice AW XS.length cW)) := AtC.grown bW_14.out g15 (fun e => by have h1 := bl_bW_x0.out; have h2 := (own_block x0_14.out _ e).1; omega)
    have bx0_15 : Hid (AtC w15 w6.heap.size (.int .i64 n0) (.slice Ax0 xs0.length cx0)) := AtC.grown bx0_14.out g15 (fun e => by have h1 := lt_x0_bx0.out _ e; omega)
    have x1_15 : Hid (OwnV 3 w15 w7.heap.size (.slice Ax1 xs1.length cx1) (ints xs1)) := own_grown x1_14.out g15 (fun j hj e => by have h1 := (own_block x1_14.out j hj).1; have h2 := lt_x0_x1.out j e; omega)
    have bx1_15 : Hid (AtC w15 w8.heap.size (.int .i64 n1) (.slice Ax1 xs1.length cx1)) := AtC.grown bx1_14.out g15 (fun e => by have h1 := lt_x0_bx1.out _ e; omega)
    have G_15 : Hid (OwnV 3 w15 w9.heap.size (.slice AG XS.length cG) (ints XS)) := own_grown G_14.out g15 (fun j hj e => by have h1 := (own_block G_14.out j hj).1; have h2 := lt_x0_G.out j e; omega)
    have bG_15 : Hid (AtC w15 w10.heap.size (.int .i64 N) (.slice AG XS.length cG)) := AtC.grown bG_14.out g15 (fun e => by have h1 := lt_x0_bG.out _ e; omega)
    have x0_15 : Hid (OwnV 3 w15 w5.heap.size (.slice Ax0 xs0.length cx0) (ints (marks 1 xs0.length))) := oq15
    clear c_14 p0_14 p1_14 W_14 bW_14 x0_14 bx0_14 x1_14 bx1_14 G_14 bG_14 oq15 g15
    obtain ⟨vp0_15_0, vp0_15_1⟩ := p0_15.out
    obtain ⟨vp1_15_0, vp1_15_1⟩ := p1_15.out
    obtain ⟨vbW_15_0, vbW_15_1⟩ := bW_15.out
    obtain ⟨vbx0_15_0, vbx0_15_1⟩ := bx0_15.out
    obtain ⟨vbx1_15_0, vbx1_15_1⟩ := bx1_15.out
    obtain ⟨vbG_15_0, vbG_15_1⟩ := bG_15.out
    go_wp2_with fail
    refine (markComplex_any n1 _ xs1 (1 + (xs0.length : Int)) w15 x1_15.out (by omega) (by omega) (by omega)).mono ?_
    rintro e w16 ⟨rfl, oq16, g16⟩
    clear vp0_15_0 vp0_15_1 vp1_15_0 vp1_15_1 vbW_15_0 vbW_15_1 vbx0_15_0 vbx0_15_1 vbx1_15_0 vbx1_15_1 vbG_15_0 vbG_15_1
    have c_16 : Hid (Below w2.heap.size w2 w16) := (c_15.out).trans (grown_below g16 (c_15.out).size (fun j hj => Nat.le_trans z_c_x1.out (own_block x1_15.out j hj).1))
    have p0_16 : Hid (AtC w16 w.heap.size (.int .i64 n0) (.slice A0 xs0.length k0)) := AtC.grown p0_15.out g16 (fun e => by have h1 := bl_p0_x1.out; have h2 := (own_block x1_15.out _ e).1; omega)
    have p1_16 : Hid (AtC w16 w1.heap.size (.int .i64 n1) (.slice A1 xs1.length k1)) := AtC.grown p1_15.out g16 (fun e => by have h1 := bl_p1_x1.out; have h2 := (own_block x1_15.out _ e).1; omega)
    have W_16 : Hid (OwnV 3 w16 w4.heap.size (.slice AW XS.length cW) (ints XS)) := own_grown W_15.out g16 (fun j hj e => by have h1 := lt_W_x1.out j hj; have h2 := (own_block x1_15.out j e).1; omega)
    have bW_16 : Hid (AtC w16 gW (.int .i64 N) (.slice AW XS.length cW)) := AtC.grown bW_15.out g16 (fun e => by have h1 := bl_bW_x1.out; have h2 := (own_block x1_15.out _ e).1; omega)
    have x0_16 : Hid (OwnV 3 w16 w5.heap.size (.slice Ax0 xs0.length cx0) (ints (marks 1 xs0.length))) := own_grown x0_15.out g16 (fun j hj e => by have h1 := lt_x0_x1.out j hj; have h2 := (own_block x1_15.out j e).1; omega)
    have bx0_16 : Hid (AtC w16 w6.heap.size (.int .i64 n0) (.slice Ax0 xs0.length cx0)) := AtC.grown bx0_15.out g16 (fun e => by have h1 := bl_bx0_x1.out; have h2 := (own_block x1_15.out _ e).1; omega)
    have bx1_16 : Hid (AtC w16 w8.heap.size (.int .i64 n1) (.slice Ax1 xs1.length cx1)) := AtC.grown bx1_15.out g16 (fun e => by have h1 := lt_x1_bx1.out _ e; omega)
    have G_16 : Hid (OwnV 3 w16 w9.heap.size (.slice AG XS.length cG) (ints XS)) := own_grown G_15.out g16 (fun j hj e => by have h1 := (own_block G_15.out j hj).1; have h2 := lt_x1_G.out j e; omega)
    have bG_16 : Hid (AtC w16 w10.heap.size (.int .i64 N) (.slice AG XS.length cG)) := AtC.grown bG_15.out g16 (fun e => by have h1 := lt_x1_bG.out _ e; omega)
    have x1_16 : Hid (OwnV 3 w16 w7.heap.size (.slice Ax1 xs1.length cx1) (ints (marks (1 + (xs0.length : Int)) xs1.length))) := oq16
    clear c_15 p0_15 p1_15 W_15 bW_15 x0_15 bx0_15 x1_15 bx1_15 G_15 bG_15 oq16 g16
    obtain ⟨vp0_16_0, vp0_16_1⟩ := p0_16.out
    obtain ⟨vp1_16_0, vp1_16_1⟩ := p1_16.out
    obtain ⟨vbW_16_0, vbW_16_1⟩ := bW_16.out
    obtain ⟨vbx0_16_0, vbx0_16_1⟩ := bx0_16.out
    obtain ⟨vbx1_16_0, vbx1_16_1⟩ := bx1_16.out
    obtain ⟨vbG_16_0, vbG_16_1⟩ := bG_16.out
    go_wp2_with fail
    refine (eqComplex_same N _ _ XS w16 (own_reads G_16.out) (own_reads W_16.out) (by omega)).mono ?_
    rintro e w17 ⟨rfl, b17⟩
    clear vp0_16_0 vp0_16_1 vp1_16_0 vp1_16_1 vbW_16_0 vbW_16_1 vbx0_16_0 vbx0_16_1 vbx1_16_0 vbx1_16_1 vbG_16_0 vbG_16_1
    have c_17 : Hid (Below w2.heap.size w2 w17) := nxt c_16.out b17
    have p0_17 : Hid (AtC w17 w.heap.size (.int .i64 n0) (.slice A0 xs0.length k0)) := AtC.to p0_16.out b17
    have p1_17 : Hid (AtC w17 w1.heap.size (.int .i64 n1) (.slice A1 xs1.length k1)) := AtC.to p1_16.out b17
    have W_17 : Hid (OwnV 3 w17 w4.heap.size (.slice AW XS.length cW) (ints XS)) := own_below W_16.out b17
    have bW_17 : Hid (AtC w17 gW (.int .i64 N) (.slice AW XS.length cW)) := AtC.to bW_16.out b17
    have x0_17 : Hid (OwnV 3 w17 w5.heap.size (.slice Ax0 xs0.length cx0) (ints (marks 1 xs0.length))) := own_below x0_16.out b17
    have bx0_17 : Hid (AtC w17 w6.heap.size (.int .i64 n0) (.slice Ax0 xs0.length cx0)) := AtC.to bx0_16.out b17
    have x1_17 : Hid (OwnV 3 w17 w7.heap.size (.slice Ax1 xs1.length cx1) (ints (marks (1 + (xs0.length : Int)) xs1.length))) := own_below x1_16.out b17
    have bx1_17 : Hid (AtC w17 w8.heap.size (.int .i64 n1) (.slice Ax1 xs1.length cx1)) := AtC.to bx1_16.out b17
    have G_17 : Hid (OwnV 3 w17 w9.heap.size (.slice AG XS.length cG) (ints XS)) := own_below G_16.out b17
    have bG_17 : Hid (AtC w17 w10.heap.size (.int .i64 N) (.slice AG XS.length cG)) := AtC.to bG_16.out b17
    clear c_16 p0_16 p1_16 W_16 bW_16 x0_16 bx0_16 x1_16 bx1_16 G_16 bG_16
    obtain ⟨vp0_17_0, vp0_17_1⟩ := p0_17.out
    obtain ⟨vp1_17_0, vp1_17_1⟩ := p1_17.out
    obtain ⟨vbW_17_0, vbW_17_1⟩ := bW_17.out
    obtain ⟨vbx0_17_0, vbx0_17_1⟩ := bx0_17.out
    obtain ⟨vbx1_17_0, vbx1_17_1⟩ := bx1_17.out
    obtain ⟨vbG_17_0, vbG_17_1⟩ := bG_17.out
    clear b17
    go_wp2_with fail
    refine (markComplex_any N _ XS 1 w17 G_17.out (by omega) (by omega) (by omega)).mono ?_
    rintro e w18 ⟨rfl, oq18, g18⟩
    clear vp0_17_0 vp0_17_1 vp1_17_0 vp1_17_1 vbW_17_0 vbW_17_1 vbx0_17_0 vbx0_17_1 vbx1_17_0 vbx1_17_1 vbG_17_0 vbG_17_1
    have c_18 : Hid (Below w2.heap.size w2 w18) := (c_17.out).trans (grown_below g18 (c_17.out).size (fun j hj => Nat.le_trans z_c_G.out (own_block G_17.out j hj).1))
    have p0_18 : Hid (AtC w18 w.heap.size (.int .i64 n0) (.slice A0 xs0.length k0)) := AtC.grown p0_17.out g18 (fun e => by have h1 := bl_p0_G.out; have h2 := (own_block G_17.out _ e).1; omega)
    have p1_18 : Hid (AtC w18 w1.heap.size (.int .i64 n1) (.slice A1 xs1.length k1)) := AtC.grown p1_17.out g18 (fun e => by have h1 := bl_p1_G.out; have h2 := (own_block G_17.out _ e).1; omega)
    have W_18 : Hid (OwnV 3 w18 w4.heap.size (.slice AW XS.length cW) (ints XS)) := own_grown W_17.out g18 (fun j hj e => by have h1 := lt_W_G.out j hj; have h2 := (own_block G_17.out j e).1; omega)
    have bW_18 : Hid (AtC w18 gW (.int .i64 N) (.slice AW XS.length cW)) := AtC.grown bW_17.out g18 (fun e => by have h1 := bl_bW_G.out; have h2 := (own_block G_17.out _ e).1; omega)
    have x0_18 : Hid (OwnV 3 w18 w5.heap.size (.slice Ax0 xs0.length cx0) (ints (marks 1 xs0.length))) := own_grown x0_17.out g18 (fun j hj e => by have h1 := lt_x0_G.out j hj; have h2 := (own_block G_17.out j e).1; omega)
    have bx0_18 : Hid (AtC w18 w6.heap.size (.int .i64 n0) (.slice Ax0 xs0.length cx0)) := AtC.grown bx0_17.out g18 (fun e => by have h1 := bl_bx0_G.out; have h2 := (own_block G_17.out _ e).1; omega)
    have x1_18 : Hid (OwnV 3 w18 w7.heap.size (.slice Ax1 xs1.length cx1) (ints (marks (1 + (xs0.length : Int)) xs1.length))) := own_grown x1_17.out g18 (fun j hj e => by have h1 := lt_x1_G.out j hj; have h2 := (own_block G_17.out j e).1; omega)
    have bx1_18 : Hid (AtC w18 w8.heap.size (.int .i64 n1) (.slice Ax1 xs1.length cx1)) := AtC.grown bx1_17.out g18 (fun e => by have h1 := bl_bx1_G.out; have h2 := (own_block G_17.out _ e).1; omega)
    have bG_18 : Hid (AtC w18 w10.heap.size (.int .i64 N) (.slice AG XS.length cG)) := AtC.grown bG_17.out g18 (fun e => by have h1 := lt_G_bG.out _ e; omega)
    have G_18 : Hid (OwnV 3 w18 w9.heap.size (.slice AG XS.length cG) (ints (marks 1 XS.length))) := oq18
    clear c_17 p0_17 p1_17 W_17 bW_17 x0_17 bx0_17 x1_17 bx1_17 G_17 bG_17 oq18 g18
    obtain ⟨vp0_18_0, vp0_18_1⟩ := p0_18.out
    obtain ⟨vp1_18_0, vp1_18_1⟩ := p1_18.out
    obtain ⟨vbW_18_0, vbW_18_1⟩ := bW_18.out
    obtain ⟨vbx0_18_0, vbx0_18_1⟩ := bx0_18.out
    obtain ⟨vbx1_18_0, vbx1_18_1⟩ := bx1_18.out
    obtain ⟨vbG_18_0, vbG_18_1⟩ := bG_18.out
    go_wp2_with fail
    refine (heldComplex_yes N _ XS.length 1 w18 (own_reads G_18.out) (by omega) (by omega) (by omega)).mono ?_
    rintro e w19 ⟨rfl, b19⟩
    clear vp0_18_0 vp0_18_1 vp1_18_0 vp1_18_1 vbW_18_0 vbW_18_1 vbx0_18_0 vbx0_18_1 vbx1_18_0 vbx1_18_1 vbG_18_0 vbG_18_1
    have c_19 : Hid (Below w2.heap.size w2 w19) := nxt c_18.out b19
    have p0_19 : Hid (AtC w19 w.heap.size (.int .i64 n0) (.slice A0 xs0.length k0)) := AtC.to p0_18.out b19
    have p1_19 : Hid (AtC w19 w1.heap.size (.int .i64 n1) (.slice A1 xs1.length k1)) := AtC.to p1_18.out b19
    have W_19 : Hid (OwnV 3 w19 w4.heap.size (.slice AW XS.length cW) (ints XS)) := own_below W_18.out b19
    have bW_19 : Hid (AtC w19 gW (.int .i64 N) (.slice AW XS.length cW)) := AtC.to bW_18.out b19
    have x0_19 : Hid (OwnV 3 w19 w5.heap.size (.slice Ax0 xs0.length cx0) (ints (marks 1 xs0.length))) := own_below x0_18.out b19
    have bx0_19 : Hid (AtC w19 w6.heap.size (.int .i64 n0) (.slice Ax0 xs0.length cx0)) := AtC.to bx0_18.out b19
    have x1_19 : Hid (OwnV 3 w19 w7.heap.size (.slice Ax1 xs1.length cx1) (ints (marks (1 + (xs0.length : Int)) xs1.length))) := own_below x1_18.out b19
    have bx1_19 : Hid (AtC w19 w8.heap.size (.int .i64 n1) (.slice Ax1 xs1.length cx1)) := AtC.to bx1_18.out b19
    have G_19 : Hid (OwnV 3 w19 w9.heap.size (.slice AG XS.length cG) (ints (marks 1 XS.length))) := own_below G_18.out b19
    have bG_19 : Hid (AtC w19 w10.heap.size (.int .i64 N) (.slice AG XS.length cG)) := AtC.to bG_18.out b19
    clear c_18 p0_18 p1_18 W_18 bW_18 x0_18 bx0_18 x1_18 bx1_18 G_18 bG_18
    obtain ⟨vp0_19_0, vp0_19_1⟩ := p0_19.out
    obtain ⟨vp1_19_0, vp1_19_1⟩ := p1_19.out
    obtain ⟨vbW_19_0, vbW_19_1⟩ := bW_19.out
    obtain ⟨vbx0_19_0, vbx0_19_1⟩ := bx0_19.out
    obtain ⟨vbx1_19_0, vbx1_19_1⟩ := bx1_19.out
    obtain ⟨vbG_19_0, vbG_19_1⟩ := bG_19.out
    clear b19
    go_upto_region 31 with fail
    go_cut [15, 16] (fun sp sb wx => ∃ (A : Option Addr) (c g : Nat), sp = .pointer (some ⟨g, 0, none⟩) ∧ sb = .bool B ∧ Hid (Below w19.heap.size w19 wx) ∧ Hid (OwnV 3 wx w19.heap.size (.slice A XS.length c) (ints XS)) ∧ Hid (AtC wx g (.int .i64 N) (.slice A XS.length c)))
    case first =>
      have hS20 : Hid (∀ X : World, Below w19.heap.size w19 X → ((X.cell? ⟨w.heap.size, 0, none⟩ = some (.int .i64 n0) ∧ X.cell? ⟨w.heap.size, 1, none⟩ = some (.slice A0 xs0.length k0)) ∧ (X.cell? ⟨w1.heap.size, 0, none⟩ = some (.int .i64 n1) ∧ X.cell? ⟨w1.heap.size, 1, none⟩ = some (.slice A1 xs1.length k1)) ∧ Hid (Below w19.heap.size w19 X))) := fun X h => ⟨AtC.to p0_19.out h, AtC.to p1_19.out h, h⟩
      have rq0 := hide (now_ Rd0.out c_19.out)
      have rq1 := hide (now_ Rd1.out c_19.out)
      have hb0_20 : Below w19.heap.size w19 w19.drew := (Below.refl _ _).drew
      have hb1_20 : Below w19.heap.size w19 (w19.alloc (.cells #[.int .i64 0, .slice none 0 0] 27)).drew := (below_alloc w19 _).drew
      have hR0_20 := resg_newD (B := w19.heap.size) w19 27 (Nat.le_refl _)
      go_region_held3 (fun X => ((X.cell? ⟨w.heap.size, 0, none⟩ = some (.int .i64 n0) ∧ X.cell? ⟨w.heap.size, 1, none⟩ = some (.slice A0 xs0.length k0)) ∧ (X.cell? ⟨w1.heap.size, 0, none⟩ = some (.int .i64 n1) ∧ X.cell? ⟨w1.heap.size, 1, none⟩ = some (.slice A1 xs1.length k1)) ∧ Hid (Below w19.heap.size w19 X))) (first | with_reducible exact hS20.out _ (by assumption) | with_reducible exact hS20.out _ (below_allocD hbx _) | with_reducible exact hS20.out _ (below_store hbx hRx2 _ _) | go_keep) (first | (go_at_call 13; rename_i hSx _ _; (try (have oqp := oq; have oqpa := oqa)); (first | (go_fit (toComplex_any n0 _ xs0 _ (now_ rq0.out hSx.2.2) (by omega)); rintro e wq20 ⟨vq, rfl, oq, bq⟩) | (go_fit (toComplex_any n1 _ xs1 _ (now_ rq1.out hSx.2.2) (by omega)); rintro e wq20 ⟨vq, rfl, oq, bq⟩)); (try (have oc := own_below oqp bq; have oca := own_below oc (below_alloc wq20 (.cells #[.int .i64 0, .slice none 0 0] 27)))); (try (have oc := own_below oqpa bq; have oca := own_below oc (below_alloc wq20 (.cells #[.int .i64 0, .slice none 0 0] 27)))); have oqa := own_below oq (below_alloc wq20 (.cells #[.int .i64 0, .slice none 0 0] 27)); have hbx := nxt hSx.2.2 bq; (try (have hRx := ResG.to (by assumption : ResG w19.heap.size _ _) bq; have hRx2 := hRx.2; obtain ⟨⟨_, _, hr0, hr1⟩, hf0, hf1⟩ := hRx.1)); have hRy := resg_new (B := w19.heap.size) wq20 27 hbx.size; have hby := below_allocD hbx (.cells #[.int .i64 0, .slice none 0 0] 27)) | (go_at_call 32; rename_i hSx _ _; refine (hI _ _ _ (by first | with_reducible exact own_reads oq | with_reducible exact own_reads oqa | with_reducible exact own_reads oc | with_reducible exact own_reads oca) (by first | with_reducible exact own_reads oq | with_reducible exact own_reads oqa | with_reducible exact own_reads oc | with_reducible exact own_reads oca)).mono ?_; rintro e w20 ⟨v20, rfl, o20, bq⟩; obtain ⟨A20, c20, rfl⟩ := own_shape o20; have om20 := own_mono o20 hSx.2.2.size; have far20 := fun j hj => (own_block o20 j hj).1; (try (have hlx := ResG.ltB (by assumption : ResG w19.heap.size _ _) bq)); have hbx := nxt hSx.2.2 bq; (try (have hRx := ResG.to (by assumption : ResG w19.heap.size _ _) bq; have hRx2 := hRx.2; obtain ⟨⟨_, _, hr0, hr1⟩, hf0, hf1⟩ := hRx.1)); have hRy := resg_new (B := w19.heap.size) w20 27 hbx.size; have hby := below_allocD hbx (.cells #[.int .i64 0, .slice none 0 0] 27)))
      all_goals (
        go_wp2_with fail
        go_meet
        first | exact ⟨_, _, _, rfl, rfl, below_allocD (by assumption) _, own_below om20 (below_alloc _ _), ⟨World.cell?_alloc_at _ _ _ _ rfl, World.cell?_alloc_at _ _ _ _ rfl⟩⟩ | exact ⟨_, _, _, rfl, rfl, below_store (by assumption) hRx.2 _ _, own_stored om20 far20 hlx _ _, hRx.1.stored _ _⟩)
    case rest =>
      obtain ⟨AH, cH, gH, rfl, rfl, hC, hO, hA⟩ := hcut
      generalize hwc : wc = w20 at hC hO hA ⊢
      clear hwc
      have b20 := hC.out
      clear hC
      clear vp0_19_0 vp0_19_1 vp1_19_0 vp1_19_1 vbW_19_0 vbW_19_1 vbx0_19_0 vbx0_19_1 vbx1_19_0 vbx1_19_1 vbG_19_0 vbG_19_1
      have c_20 : Hid (Below w2.heap.size w2 w20) := nxt c_19.out b20
      have p0_20 : Hid (AtC w20 w.heap.size (.int .i64 n0) (.slice A0 xs0.length k0)) := AtC.to p0_19.out b20
      have p1_20 : Hid (AtC w20 w1.heap.size (.int .i64 n1) (.slice A1 xs1.length k1)) := AtC.to p1_19.out b20
      have W_20 : Hid (OwnV 3 w20 w4.heap.size (.slice AW XS.length cW) (ints XS)) := own_below W_19.out b20
      have bW_20 : Hid (AtC w20 gW (.int .i64 N) (.slice AW XS.length cW)) := AtC.to bW_19.out b20
      have x0_20 : Hid (OwnV 3 w20 w5.heap.size (.slice Ax0 xs0.length cx0) (ints (marks 1 xs0.length))) := own_below x0_19.out b20
      have bx0_20 : Hid (AtC w20 w6.heap.size (.int .i64 n0) (.slice Ax0 xs0.length cx0)) := AtC.to bx0_19.out b20
      have x1_20 : Hid (OwnV 3 w20 w7.heap.size (.slice Ax1 xs1.length cx1) (ints (marks (1 + (xs0.length : Int)) xs1.length))) := own_below x1_19.out b20
      have bx1_20 : Hid (AtC w20 w8.heap.size (.int .i64 n1) (.slice Ax1 xs1.length cx1)) := AtC.to bx1_19.out b20
      have G_20 : Hid (OwnV 3 w20 w9.heap.size (.slice AG XS.length cG) (ints (marks 1 XS.length))) := own_below G_19.out b20
      have bG_20 : Hid (AtC w20 w10.heap.size (.int .i64 N) (.slice AG XS.length cG)) := AtC.to bG_19.out b20
      clear c_19 p0_19 p1_19 W_19 bW_19 x0_19 bx0_19 x1_19 bx1_19 G_19 bG_19
      obtain ⟨vp0_20_0, vp0_20_1⟩ := p0_20.out
      obtain ⟨vp1_20_0, vp1_20_1⟩ := p1_20.out
      obtain ⟨vbW_20_0, vbW_20_1⟩ := bW_20.out
      obtain ⟨vbx0_20_0, vbx0_20_1⟩ := bx0_20.out
      obtain ⟨vbx1_20_0, vbx1_20_1⟩ := bx1_20.out
      obtain ⟨vbG_20_0, vbG_20_1⟩ := bG_20.out
      clear b20
      have H_20 := hO
      have bH_20 := hA
      clear hO hA
      obtain ⟨vbH_20_0, vbH_20_1⟩ := bH_20.out
      go_wp2_with fail
      refine (eqComplex_same N _ _ XS w20 (own_reads H_20.out) (own_reads W_20.out) (by omega)).mono ?_
      rintro e w21 ⟨rfl, b21⟩
      clear vp0_20_0 vp0_20_1 vp1_20_0 vp1_20_1 vbW_20_0 vbW_20_1 vbx0_20_0 vbx0_20_1 vbx1_20_0 vbx1_20_1 vbG_20_0 vbG_20_1 vbH_20_0 vbH_20_1
      have c_21 : Hid (Below w2.heap.size w2 w21) := nxt c_20.out b21
      have p0_21 : Hid (AtC w21 w.heap.size (.int .i64 n0) (.slice A0 xs0.length k0)) := AtC.to p0_20.out b21
      have p1_21 : Hid (AtC w21 w1.heap.size (.int .i64 n1) (.slice A1 xs1.length k1)) := AtC.to p1_20.out b21
      have W_21 : Hid (OwnV 3 w21 w4.heap.size (.slice AW XS.length cW) (ints XS)) := own_below W_20.out b21
      have bW_21 : Hid (AtC w21 gW (.int .i64 N) (.slice AW XS.length cW)) := AtC.to bW_20.out b21
      have x0_21 : Hid (OwnV 3 w21 w5.heap.size (.slice Ax0 xs0.length cx0) (ints (marks 1 xs0.length))) := own_below x0_20.out b21
      have bx0_21 : Hid (AtC w21 w6.heap.size (.int .i64 n0) (.slice Ax0 xs0.length cx0)) := AtC.to bx0_20.out b21
      have x1_21 : Hid (OwnV 3 w21 w7.heap.size (.slice Ax1 xs1.length cx1) (ints (marks (1 + (xs0.length : Int)) xs1.length))) := own_below x1_20.out b21
      have bx1_21 : Hid (AtC w21 w8.heap.size (.int .i64 n1) (.slice Ax1 xs1.length cx1)) := AtC.to bx1_20.out b21
      have G_21 : Hid (OwnV 3 w21 w9.heap.size (.slice AG XS.length cG) (ints (marks 1 XS.length))) := own_below G_20.out b21
      have bG_21 : Hid (AtC w21 w10.heap.size (.int .i64 N) (.slice AG XS.length cG)) := AtC.to bG_20.out b21
      have H_21 : Hid (OwnV 3 w21 w19.heap.size (.slice AH XS.length cH) (ints XS)) := own_below H_20.out b21
      have bH_21 : Hid (AtC w21 gH (.int .i64 N) (.slice AH XS.length cH)) := AtC.to bH_20.out b21
      clear c_20 p0_20 p1_20 W_20 bW_20 x0_20 bx0_20 x1_20 bx1_20 G_20 bG_20 H_20 bH_20
      obtain ⟨vp0_21_0, vp0_21_1⟩ := p0_21.out
      obtain ⟨vp1_21_0, vp1_21_1⟩ := p1_21.out
      obtain ⟨vbW_21_0, vbW_21_1⟩ := bW_21.out
      obtain ⟨vbx0_21_0, vbx0_21_1⟩ := bx0_21.out
      obtain ⟨vbx1_21_0, vbx1_21_1⟩ := bx1_21.out
      obtain ⟨vbG_21_0, vbG_21_1⟩ := bG_21.out
      obtain ⟨vbH_21_0, vbH_21_1⟩ := bH_21.out
      clear b21
      go_wp2_with fail
      refine (heldComplex_yes N _ XS.length 1 w21 (own_reads G_21.out) (by omega) (by omega) (by omega)).mono ?_
      rintro e w22 ⟨rfl, b22⟩
      clear vp0_21_0 vp0_21_1 vp1_21_0 vp1_21_1 vbW_21_0 vbW_21_1 vbx0_21_0 vbx0_21_1 vbx1_21_0 vbx1_21_1 vbG_21_0 vbG_21_1 vbH_21_0 vbH_21_1
      have c_22 : Hid (Below w2.heap.size w2 w22) := nxt c_21.out b22
      have p0_22 : Hid (AtC w22 w.heap.size (.int .i64 n0) (.slice A0 xs0.length k0)) := AtC.to p0_21.out b22
      have p1_22 : Hid (AtC w22 w1.heap.size (.int .i64 n1) (.slice A1 xs1.length k1)) := AtC.to p1_21.out b22
      have W_22 : Hid (OwnV 3 w22 w4.heap.size (.slice AW XS.length cW) (ints XS)) := own_below W_21.out b22
      have bW_22 : Hid (AtC w22 gW (.int .i64 N) (.slice AW XS.length cW)) := AtC.to bW_21.out b22
      have x0_22 : Hid (OwnV 3 w22 w5.heap.size (.slice Ax0 xs0.length cx0) (ints (marks 1 xs0.length))) := own_below x0_21.out b22
      have bx0_22 : Hid (AtC w22 w6.heap.size (.int .i64 n0) (.slice Ax0 xs0.length cx0)) := AtC.to bx0_21.out b22
      have x1_22 : Hid (OwnV 3 w22 w7.heap.size (.slice Ax1 xs1.length cx1) (ints (marks (1 + (xs0.length : Int)) xs1.length))) := own_below x1_21.out b22
      have bx1_22 : Hid (AtC w22 w8.heap.size (.int .i64 n1) (.slice Ax1 xs1.length cx1)) := AtC.to bx1_21.out b22
      have G_22 : Hid (OwnV 3 w22 w9.heap.size (.slice AG XS.length cG) (ints (marks 1 XS.length))) := own_below G_21.out b22
      have bG_22 : Hid (AtC w22 w10.heap.size (.int .i64 N) (.slice AG XS.length cG)) := AtC.to bG_21.out b22
      have H_22 : Hid (OwnV 3 w22 w19.heap.size (.slice AH XS.length cH) (ints XS)) := own_below H_21.out b22
      have bH_22 : Hid (AtC w22 gH (.int .i64 N) (.slice AH XS.length cH)) := AtC.to bH_21.out b22
      clear c_21 p0_21 p1_21 W_21 bW_21 x0_21 bx0_21 x1_21 bx1_21 G_21 bG_21 H_21 bH_21
      obtain ⟨vp0_22_0, vp0_22_1⟩ := p0_22.out
      obtain ⟨vp1_22_0, vp1_22_1⟩ := p1_22.out
      obtain ⟨vbW_22_0, vbW_22_1⟩ := bW_22.out
      obtain ⟨vbx0_22_0, vbx0_22_1⟩ := bx0_22.out
      obtain ⟨vbx1_22_0, vbx1_22_1⟩ := bx1_22.out
      obtain ⟨vbG_22_0, vbG_22_1⟩ := bG_22.out
      obtain ⟨vbH_22_0, vbH_22_1⟩ := bH_22.out
      clear b22
      go_wp2
      go_ret
      have Z1 := Z1.out
      have Z2 := Z2.out
      exact ⟨rfl, B1.out.trans (c_22.out.mono (by omega))⟩

set_option maxRecDepth 100000 in
theorem lifted_FnExactDisjointOf (os : Os) (started : os.Started) (H : Type) (enc : TypeId × Value → H) :
    ReturnsInHanded {} Try.checked os 9 .any (Rows.fnExactDisjointOfSpec.pre6 enc Try.prog Try.f9 Rows.fnExactDisjointOfRow.domain false) (Rows.fnExactDisjointOfSpec.post enc Try.prog Try.f9 false true false false) := by
  refine returnsInHanded_of_change (C := Try.checked) own started (by kernel_rfl) Try.func9
    (ChangeSpec.witness6 (enc := enc) (C := Try.checked) false ⟨#[], #[.agg #[.int .i64 0, .slice none 0 0], .agg #[.int .i64 0, .slice none 0 0]], []⟩ 8 (by kernel_rfl) (by kernel_rfl) (by kernel_rfl) (by kernel_rfl)) ?_
  intro W base args ds gs before hval0 hW hcnd _
  have hval : ∀ (j : Nat) t v, Try.f9.params[j]? = some t → args[j]? = some v → Value.okWide Try.prog W .any base t v := hval0
  have hW' := hW
  obtain ⟨p, q, hA0, hV, rfl, hfz, hnd⟩ := hW
  have hA : DataW.TrodAll enc Try.prog W 0 (fun _ => true) true Try.f9.params.toList args.toList ds p := hA0
  rw [Try.params9] at hA hval
  have hB := fun W' => back_all (enc := enc) (W' := W') laidOut _ _ _ _ (show AllR Try.prog [24, 24] from ⟨⟨by kernel_rfl, of_decide_eq_true (by kernel_rfl)⟩, ⟨⟨by kernel_rfl, of_decide_eq_true (by kernel_rfl)⟩, trivial⟩⟩) hA
  obtain ⟨v0, vs0, d0, ds0, p0, q0, hargs, rfl, rfl, h0, r0⟩ := trodAll_cons hA
  obtain ⟨v1, vs1, d1, ds1, p1, q1, rfl, rfl, rfl, h1, r1⟩ := trodAll_cons r0
  obtain ⟨rfl, rfl, rfl⟩ := trodAll_nil r1
  obtain rfl : args = #[v0, v1] := by cases args; simp_all
  obtain ⟨rfl, rfl⟩ := trodVars_none hV
  obtain ⟨n0, u0, xs0, rfl, rd0, bl0, bn0, bx0⟩ := openComplex Try.underlying24 (by kernel_rfl) (by kernel_rfl) Try.underlying3 Try.underlying22 Try.underlying3 (by kernel_rfl) (hval 0 24 v0 rfl rfl) h0
  obtain ⟨n1, u1, xs1, rfl, rd1, bl1, bn1, bx1⟩ := openComplex Try.underlying24 (by kernel_rfl) (by kernel_rfl) Try.underlying3 Try.underlying22 Try.underlying3 (by kernel_rfl) (hval 1 24 v1 rfl rfl) h1
  clear hA0 hval0
  refine (walk_FnExactDisjointOf W n0 u0 xs0 rd0 bl0 bn0 bx0 n1 u1 xs1 rd1 bl1 bn1 bx1).mono fun e W' ⟨he, bel⟩ => ?_
  subst he
  exact ⟨_, rfl, _, _, _, [], _, [], hW', trodAll_mk1 (shut_bool Try.underlying4 _), hB W' bel, rfl, bel.frame _, fun h => by cases h⟩

theorem FnExactDisjointOf_holds : Rows.FnExactDisjointOfSaid :=
  OpenClaim.holds_of_wide 9 Try.f9 rfl rfl rfl rfl rfl rfl rfl ⟨rfl, rfl, rfl, rfl, rfl⟩ rfl rfl rfl rfl rfl (by kernel_rfl) Try.func9 (by kernel_rfl)
    (of_decide_eq_true (by kernel_rfl)) (by unfold Func.isWrapper; first | (rw [if_pos (by decide +kernel)]; kernel_rfl) | (rw [if_neg (by decide +kernel)]; exact ⟨rfl, rfl⟩))
    (fun os started H enc _ => lifted_FnExactDisjointOf os started H enc)
end Go.Proofs.Ytmkacjpjcfffmab
