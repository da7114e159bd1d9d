/- The law FnSets. No condition. -/
import Derived.Test.YtmkacjpjcfffmaaW63
import Derived.Test.YtmkacjpjcfffmaaW40
import Derived.Test.YtmkacjpjcfffmaaW6
import Derived.Test.YtmkacjpjcfffmaaOpen3
namespace Go.Proofs.Ytmkacjpjcfffmaa
open Go.ChangeShapes Go.WideShapes Go.ChangeAt Go.RowKit
open Go.ChangeMaps (open_string shut_string)
set_option linter.unusedVariables false

set_option maxHeartbeats 40000000 in
set_option maxRecDepth 100000 in
theorem walk_FnSets (w : World) (v0 : Value) (ls0 : List UInt8) (rd0 : BytesAt w w.heap.size v0 ls0) (bl0 : ls0.length ≤ 9223372036854775807) : Calls Try.prog 11 #[v0] w fun e w' => RetB w true e w' := by
  have Rd0 := hide rd0
  obtain ⟨A0, k0, hv0, hk0, hrest⟩ := rd0
  have hl0 : (bytesV ls0).length = ls0.length := List.length_map _
  rw [hl0] at hv0
  subst hv0
  clear hrest hk0 hl0
  by_cases hgd : (1048576 : Int) < (ls0.length : Int)
  · have hd := hide (decide_eq_true hgd)
    clear hgd
    go_enter Try.func11, Try.ntmps11
    go_wp2_with fail
    refine (bigS _ ls0 w Rd0.out).mono ?_
    rw [hd.out]
    rintro e w' ⟨rfl, rfl⟩
    go_wp2
    go_ret
    exact ⟨rfl, Below.refl _ _⟩
  have hd := hide (decide_eq_false hgd)
  have hgd2 : ls0.length ≤ 1048576 := by omega
  clear hgd
  go_enter Try.func11, Try.ntmps11
  go_wp2_with fail
  refine (bigS _ ls0 w Rd0.out).mono ?_
  rw [hd.out]
  rintro e w' ⟨rfl, rfl⟩
  have c_0 : Hid (Below w.heap.size w w) := Below.refl _ _
  go_wp2_with fail
  refine (drawIsSetS _ ls0 w (nowB_ Rd0.out c_0.out) (by omega)).mono ?_
  rintro e w1 ⟨n, s, hn1, hn2, hs1, hs2, rfl, b1⟩
  have c_1 : Hid (Below w.heap.size w w1) := b1
  clear c_0
  clear b1
  go_wp2_with fail
  refine (drawParseSetS _ ls0 w1 (nowB_ Rd0.out c_1.out) (by omega)).mono ?_
  rintro e w2 ⟨t, ht, rfl, b2⟩
  have c_2 : Hid (Below w.heap.size w w2) := nxt c_1.out b2
  clear c_1
  clear b2
  go_wp2_with fail
  refine (parseSetI2 t w2 (by omega)).mono ?_
  rintro e w3 ⟨rfl, b3⟩
  have c_3 : Hid (Below w.heap.size w w3) := nxt c_2.out b3
  clear c_2
  clear b3
  go_wp2_with fail
  refine (parseSetS2 t w3 (by omega)).mono ?_
  rintro e w4 ⟨rfl, b4⟩
  have c_4 : Hid (Below w.heap.size w w4) := nxt c_3.out b4
  clear c_3
  clear b4
  go_wp2_with fail
  refine (drawMaximalSetsS _ ls0 w4 (nowB_ Rd0.out c_4.out) (by omega)).mono ?_
  rintro e w5 ⟨vX, xs, hsm, rfl, oX, b5⟩
  have c_5 : Hid (Below w.heap.size w w5) := nxt c_4.out b5
  clear c_4
  obtain ⟨AX, cX, rfl⟩ := own_shape oX
  have X_5 : Hid (OwnV 3 w5 w4.heap.size (.slice AX xs.length cX) (ints xs)) := oX
  clear oX b5
  have hx6 := hsm.1
  have Hsm := hide hsm
  clear hsm
  obtain ⟨yA, hyA⟩ : ∃ y, y = zs (maxSets xs) := ⟨_, rfl⟩
  have HyA := hide hyA
  clear hyA
  obtain ⟨yM, hyM⟩ : ∃ y, y = zs (minSets xs) := ⟨_, rfl⟩
  have HyM := hide hyM
  clear hyM
  obtain ⟨yO, hyO⟩ : ∃ y, y = zs (orderOf xs) := ⟨_, rfl⟩
  have HyO := hide hyO
  clear hyO
  obtain ⟨yP, hyP⟩ : ∃ y, y = ptsOf s := ⟨_, rfl⟩
  have HyP := hide hyP
  clear hyP
  obtain ⟨yS, hyS⟩ : ∃ y, y = zs (subsetsOf s) := ⟨_, rfl⟩
  have HyS := hide hyS
  clear hyS
  have hl1 : yA.length ≤ 1073741824 := by rw [HyA.out, zsl]; exact Nat.le_trans (maxSets_len xs) (by omega)
  have hl2 : yM.length ≤ 1073741824 := by rw [HyM.out, zsl]; exact Nat.le_trans (minSets_len xs) (by omega)
  have hl3 : yO.length ≤ 1073741824 := by rw [HyO.out, zsl]; exact Nat.le_trans (orderOf_len xs) (by omega)
  have hl4 : yS.length ≤ 1073741824 := by rw [HyS.out, zsl]; exact Nat.le_trans (subsetsOf_len s) (by omega)
  have hl5 : yP.length ≤ 1073741824 := by rw [HyP.out]; exact Nat.le_trans (ptsOf_len s) (by omega)
  have HL := hide (And.intro hl1 (And.intro hl2 (And.intro hl3 (And.intro hl4 hl5))))
  clear hl1 hl2 hl3 hl4 hl5
  go_wp2_with fail
  refine (asI (maximalSetsI _ xs w5 (own_reads X_5.out) (by omega)) HyA.out).mono ?_
  rintro e w6 ⟨vA, rfl, oA, b6⟩
  have c_6 : Hid (Below w.heap.size w w6) := nxt c_5.out b6
  have X_6 : Hid (OwnV 3 w6 w4.heap.size (.slice AX xs.length cX) (ints xs)) := own_below X_5.out b6
  clear c_5 X_5
  obtain ⟨AA, cA, rfl⟩ := own_shape oA
  have A_6 : Hid (OwnV 3 w6 w5.heap.size (.slice AA yA.length cA) (ints yA)) := oA
  clear oA b6
  go_wp2_with fail
  refine (asI (minimalSetsI _ xs w6 (own_reads X_6.out) (by omega)) HyM.out).mono ?_
  rintro e w7 ⟨vM, rfl, oM, b7⟩
  have c_7 : Hid (Below w.heap.size w w7) := nxt c_6.out b7
  have X_7 : Hid (OwnV 3 w7 w4.heap.size (.slice AX xs.length cX) (ints xs)) := own_below X_6.out b7
  have A_7 : Hid (OwnV 3 w7 w5.heap.size (.slice AA yA.length cA) (ints yA)) := own_below A_6.out b7
  clear c_6 X_6 A_6
  obtain ⟨AM, cM, rfl⟩ := own_shape oM
  have M_7 : Hid (OwnV 3 w7 w6.heap.size (.slice AM yM.length cM) (ints yM)) := oM
  clear oM b7
  go_wp2_with fail
  refine (drawBeforeSetS _ ls0 w7 (nowB_ Rd0.out c_7.out) (by omega)).mono ?_
  rintro e w8 ⟨p, q, hp1, hp2, hq1, hq2, rfl, b8⟩
  have c_8 : Hid (Below w.heap.size w w8) := nxt c_7.out b8
  have X_8 : Hid (OwnV 3 w8 w4.heap.size (.slice AX xs.length cX) (ints xs)) := own_below X_7.out b8
  have A_8 : Hid (OwnV 3 w8 w5.heap.size (.slice AA yA.length cA) (ints yA)) := own_below A_7.out b8
  have M_8 : Hid (OwnV 3 w8 w6.heap.size (.slice AM yM.length cM) (ints yM)) := own_below M_7.out b8
  clear c_7 X_7 A_7 M_7
  clear b8
  go_wp2_with fail
  refine (isSetI _ _ _).mono ?_
  rintro e w' ⟨rfl, rfl⟩
  go_wp2_with fail
  refine (isSetS _ _ _).mono ?_
  rintro e w' ⟨rfl, rfl⟩
  go_wp2_with fail
  refine (asI (maximalSetsS _ xs w8 (own_reads X_8.out) (by omega)) HyA.out).mono ?_
  rintro e w9 ⟨vT1, rfl, oT1, b9⟩
  have c_9 : Hid (Below w.heap.size w w9) := nxt c_8.out b9
  have X_9 : Hid (OwnV 3 w9 w4.heap.size (.slice AX xs.length cX) (ints xs)) := own_below X_8.out b9
  have A_9 : Hid (OwnV 3 w9 w5.heap.size (.slice AA yA.length cA) (ints yA)) := own_below A_8.out b9
  have M_9 : Hid (OwnV 3 w9 w6.heap.size (.slice AM yM.length cM) (ints yM)) := own_below M_8.out b9
  clear c_8 X_8 A_8 M_8
  obtain ⟨AT1, cT1, rfl⟩ := own_shape oT1
  have T1_9 : Hid (OwnV 3 w9 w8.heap.size (.slice AT1 yA.length cT1) (ints yA)) := oT1
  clear oT1 b9
  go_wp2_with fail
  refine (sameInts_same _ _ yA w9 (own_reads A_9.out) (own_reads T1_9.out) HL.out.1).mono ?_
  rintro e w10 ⟨rfl, b10⟩
  have c_10 : Hid (Below w.heap.size w w10) := nxt c_9.out b10
  have X_10 : Hid (OwnV 3 w10 w4.heap.size (.slice AX xs.length cX) (ints xs)) := own_below X_9.out b10
  have A_10 : Hid (OwnV 3 w10 w5.heap.size (.slice AA yA.length cA) (ints yA)) := own_below A_9.out b10
  have M_10 : Hid (OwnV 3 w10 w6.heap.size (.slice AM yM.length cM) (ints yM)) := own_below M_9.out b10
  have T1_10 : Hid (OwnV 3 w10 w8.heap.size (.slice AT1 yA.length cT1) (ints yA)) := own_below T1_9.out b10
  clear c_9 X_9 A_9 M_9 T1_9
  clear b10
  clear T1_10
  go_wp2_with fail
  refine (asI (minimalSetsS _ xs w10 (own_reads X_10.out) (by omega)) HyM.out).mono ?_
  rintro e w11 ⟨vT2, rfl, oT2, b11⟩
  have c_11 : Hid (Below w.heap.size w w11) := nxt c_10.out b11
  have X_11 : Hid (OwnV 3 w11 w4.heap.size (.slice AX xs.length cX) (ints xs)) := own_below X_10.out b11
  have A_11 : Hid (OwnV 3 w11 w5.heap.size (.slice AA yA.length cA) (ints yA)) := own_below A_10.out b11
  have M_11 : Hid (OwnV 3 w11 w6.heap.size (.slice AM yM.length cM) (ints yM)) := own_below M_10.out b11
  clear c_10 X_10 A_10 M_10
  obtain ⟨AT2, cT2, rfl⟩ := own_shape oT2
  have T2_11 : Hid (OwnV 3 w11 w10.heap.size (.slice AT2 yM.length cT2) (ints yM)) := oT2
  clear oT2 b11
  go_wp2_with fail
  refine (sameInts_same _ _ yM w11 (own_reads M_11.out) (own_reads T2_11.out) HL.out.2.1).mono ?_
  rintro e w12 ⟨rfl, b12⟩
  have c_12 : Hid (Below w.heap.size w w12) := nxt c_11.out b12
  have X_12 : Hid (OwnV 3 w12 w4.heap.size (.slice AX xs.length cX) (ints xs)) := own_below X_11.out b12
  have A_12 : Hid (OwnV 3 w12 w5.heap.size (.slice AA yA.length cA) (ints yA)) := own_below A_11.out b12
  have M_12 : Hid (OwnV 3 w12 w6.heap.size (.slice AM yM.length cM) (ints yM)) := own_below M_11.out b12
  have T2_12 : Hid (OwnV 3 w12 w10.heap.size (.slice AT2 yM.length cT2) (ints yM)) := own_below T2_11.out b12
  clear c_11 X_11 A_11 M_11 T2_11
  clear b12
  clear T2_12
  go_wp2_with fail
  refine (asI (orderSetsI _ xs w12 (own_reads X_12.out) (by omega)) HyO.out).mono ?_
  rintro e w13 ⟨vT3, rfl, oT3, b13⟩
  have c_13 : Hid (Below w.heap.size w w13) := nxt c_12.out b13
  have X_13 : Hid (OwnV 3 w13 w4.heap.size (.slice AX xs.length cX) (ints xs)) := own_below X_12.out b13
  have A_13 : Hid (OwnV 3 w13 w5.heap.size (.slice AA yA.length cA) (ints yA)) := own_below A_12.out b13
  have M_13 : Hid (OwnV 3 w13 w6.heap.size (.slice AM yM.length cM) (ints yM)) := own_below M_12.out b13
  clear c_12 X_12 A_12 M_12
  obtain ⟨AT3, cT3, rfl⟩ := own_shape oT3
  have T3_13 : Hid (OwnV 3 w13 w12.heap.size (.slice AT3 yO.length cT3) (ints yO)) := oT3
  clear oT3 b13
  go_wp2_with fail
  refine (asI (orderSetsS _ xs w13 (own_reads X_13.out) (by omega)) HyO.out).mono ?_
  rintro e w14 ⟨vT4, rfl, oT4, b14⟩
  have c_14 : Hid (Below w.heap.size w w14) := nxt c_13.out b14
  have X_14 : Hid (OwnV 3 w14 w4.heap.size (.slice AX xs.length cX) (ints xs)) := own_below X_13.out b14
  have A_14 : Hid (OwnV 3 w14 w5.heap.size (.slice AA yA.length cA) (ints yA)) := own_below A_13.out b14
  have M_14 : Hid (OwnV 3 w14 w6.heap.size (.slice AM yM.length cM) (ints yM)) := own_below M_13.out b14
  have T3_14 : Hid (OwnV 3 w14 w12.heap.size (.slice AT3 yO.length cT3) (ints yO)) := own_below T3_13.out b14
  clear c_13 X_13 A_13 M_13 T3_13
  obtain ⟨AT4, cT4, rfl⟩ := own_shape oT4
  have T4_14 : Hid (OwnV 3 w14 w13.heap.size (.slice AT4 yO.length cT4) (ints yO)) := oT4
  clear oT4 b14
  go_wp2_with fail
  refine (sameInts_same _ _ yO w14 (own_reads T3_14.out) (own_reads T4_14.out) HL.out.2.2.1).mono ?_
  rintro e w15 ⟨rfl, b15⟩
  have c_15 : Hid (Below w.heap.size w w15) := nxt c_14.out b15
  have X_15 : Hid (OwnV 3 w15 w4.heap.size (.slice AX xs.length cX) (ints xs)) := own_below X_14.out b15
  have A_15 : Hid (OwnV 3 w15 w5.heap.size (.slice AA yA.length cA) (ints yA)) := own_below A_14.out b15
  have M_15 : Hid (OwnV 3 w15 w6.heap.size (.slice AM yM.length cM) (ints yM)) := own_below M_14.out b15
  have T3_15 : Hid (OwnV 3 w15 w12.heap.size (.slice AT3 yO.length cT3) (ints yO)) := own_below T3_14.out b15
  have T4_15 : Hid (OwnV 3 w15 w13.heap.size (.slice AT4 yO.length cT4) (ints yO)) := own_below T4_14.out b15
  clear c_14 X_14 A_14 M_14 T3_14 T4_14
  clear b15
  clear T3_15 T4_15
  go_wp2_with fail
  refine (beforeSetI _ _ _).mono ?_
  rintro e w' ⟨rfl, rfl⟩
  go_wp2_with fail
  refine (beforeSetS _ _ _).mono ?_
  rintro e w' ⟨rfl, rfl⟩
  go_wp2_with fail
  refine (sizeOfI _ _).mono ?_
  rintro e w' ⟨rfl, rfl⟩
  go_wp2_with fail
  refine (sizeOfS _ _).mono ?_
  rintro e w' ⟨rfl, rfl⟩
  go_wp2_with fail
  refine (asI (pointsOfI s w15) HyP.out).mono ?_
  rintro e w16 ⟨vT5, rfl, oT5, b16⟩
  have c_16 : Hid (Below w.heap.size w w16) := nxt c_15.out b16
  have X_16 : Hid (OwnV 3 w16 w4.heap.size (.slice AX xs.length cX) (ints xs)) := own_below X_15.out b16
  have A_16 : Hid (OwnV 3 w16 w5.heap.size (.slice AA yA.length cA) (ints yA)) := own_below A_15.out b16
  have M_16 : Hid (OwnV 3 w16 w6.heap.size (.slice AM yM.length cM) (ints yM)) := own_below M_15.out b16
  clear c_15 X_15 A_15 M_15
  obtain ⟨AT5, cT5, rfl⟩ := own_shape oT5
  have T5_16 : Hid (OwnV 3 w16 w15.heap.size (.slice AT5 yP.length cT5) (ints yP)) := oT5
  clear oT5 b16
  go_wp2_with fail
  refine (asI (pointsOfS s w16) HyP.out).mono ?_
  rintro e w17 ⟨vT6, rfl, oT6, b17⟩
  have c_17 : Hid (Below w.heap.size w w17) := nxt c_16.out b17
  have X_17 : Hid (OwnV 3 w17 w4.heap.size (.slice AX xs.length cX) (ints xs)) := own_below X_16.out b17
  have A_17 : Hid (OwnV 3 w17 w5.heap.size (.slice AA yA.length cA) (ints yA)) := own_below A_16.out b17
  have M_17 : Hid (OwnV 3 w17 w6.heap.size (.slice AM yM.length cM) (ints yM)) := own_below M_16.out b17
  have T5_17 : Hid (OwnV 3 w17 w15.heap.size (.slice AT5 yP.length cT5) (ints yP)) := own_below T5_16.out b17
  clear c_16 X_16 A_16 M_16 T5_16
  obtain ⟨AT6, cT6, rfl⟩ := own_shape oT6
  have T6_17 : Hid (OwnV 3 w17 w16.heap.size (.slice AT6 yP.length cT6) (ints yP)) := oT6
  clear oT6 b17
  go_wp2_with fail
  refine (sameInts_same _ _ yP w17 (own_reads T5_17.out) (own_reads T6_17.out) HL.out.2.2.2.2).mono ?_
  rintro e w18 ⟨rfl, b18⟩
  have c_18 : Hid (Below w.heap.size w w18) := nxt c_17.out b18
  have X_18 : Hid (OwnV 3 w18 w4.heap.size (.slice AX xs.length cX) (ints xs)) := own_below X_17.out b18
  have A_18 : Hid (OwnV 3 w18 w5.heap.size (.slice AA yA.length cA) (ints yA)) := own_below A_17.out b18
  have M_18 : Hid (OwnV 3 w18 w6.heap.size (.slice AM yM.length cM) (ints yM)) := own_below M_17.out b18
  have T5_18 : Hid (OwnV 3 w18 w15.heap.size (.slice AT5 yP.length cT5) (ints yP)) := own_below T5_17.out b18
  have T6_18 : Hid (OwnV 3 w18 w16.heap.size (.slice AT6 yP.length cT6) (ints yP)) := own_below T6_17.out b18
  clear c_17 X_17 A_17 M_17 T5_17 T6_17
  clear b18
  clear T5_18 T6_18
  go_wp2_with fail
  refine (asI (subsetsOfI s w18) HyS.out).mono ?_
  rintro e w19 ⟨vT7, rfl, oT7, b19⟩
  have c_19 : Hid (Below w.heap.size w w19) := nxt c_18.out b19
  have X_19 : Hid (OwnV 3 w19 w4.heap.size (.slice AX xs.length cX) (ints xs)) := own_below X_18.out b19
  have A_19 : Hid (OwnV 3 w19 w5.heap.size (.slice AA yA.length cA) (ints yA)) := own_below A_18.out b19
  have M_19 : Hid (OwnV 3 w19 w6.heap.size (.slice AM yM.length cM) (ints yM)) := own_below M_18.out b19
  clear c_18 X_18 A_18 M_18
  obtain ⟨AT7, cT7, rfl⟩ := own_shape oT7
  have T7_19 : Hid (OwnV 3 w19 w18.heap.size (.slice AT7 yS.length cT7) (ints yS)) := oT7
  clear oT7 b19
  go_wp2_with fail
  refine (asI (subsetsOfS s w19) HyS.out).mono ?_
  rintro e w20 ⟨vT8, rfl, oT8, b20⟩
  have c_20 : Hid (Below w.heap.size w w20) := nxt c_19.out b20
  have X_20 : Hid (OwnV 3 w20 w4.heap.size (.slice AX xs.length cX) (ints xs)) := own_below X_19.out b20
  have A_20 : Hid (OwnV 3 w20 w5.heap.size (.slice AA yA.length cA) (ints yA)) := own_below A_19.out b20
  have M_20 : Hid (OwnV 3 w20 w6.heap.size (.slice AM yM.length cM) (ints yM)) := own_below M_19.out b20
  have T7_20 : Hid (OwnV 3 w20 w18.heap.size (.slice AT7 yS.length cT7) (ints yS)) := own_below T7_19.out b20
  clear c_19 X_19 A_19 M_19 T7_19
  obtain ⟨AT8, cT8, rfl⟩ := own_shape oT8
  have T8_20 : Hid (OwnV 3 w20 w19.heap.size (.slice AT8 yS.length cT8) (ints yS)) := oT8
  clear oT8 b20
  go_wp2_with fail
  refine (sameInts_same _ _ yS w20 (own_reads T7_20.out) (own_reads T8_20.out) HL.out.2.2.2.1).mono ?_
  rintro e w21 ⟨rfl, b21⟩
  have c_21 : Hid (Below w.heap.size w w21) := nxt c_20.out b21
  have X_21 : Hid (OwnV 3 w21 w4.heap.size (.slice AX xs.length cX) (ints xs)) := own_below X_20.out b21
  have A_21 : Hid (OwnV 3 w21 w5.heap.size (.slice AA yA.length cA) (ints yA)) := own_below A_20.out b21
  have M_21 : Hid (OwnV 3 w21 w6.heap.size (.slice AM yM.length cM) (ints yM)) := own_below M_20.out b21
  have T7_21 : Hid (OwnV 3 w21 w18.heap.size (.slice AT7 yS.length cT7) (ints yS)) := own_below T7_20.out b21
  have T8_21 : Hid (OwnV 3 w21 w19.heap.size (.slice AT8 yS.length cT8) (ints yS)) := own_below T8_20.out b21
  clear c_20 X_20 A_20 M_20 T7_20 T8_20
  clear b21
  clear T7_21 T8_21
  go_wp2_with fail
  refine (setsTextI _ xs w21 (own_reads X_21.out) (by omega)).mono ?_
  rintro e w22 ⟨rfl, b22⟩
  have c_22 : Hid (Below w.heap.size w w22) := nxt c_21.out b22
  have X_22 : Hid (OwnV 3 w22 w4.heap.size (.slice AX xs.length cX) (ints xs)) := own_below X_21.out b22
  have A_22 : Hid (OwnV 3 w22 w5.heap.size (.slice AA yA.length cA) (ints yA)) := own_below A_21.out b22
  have M_22 : Hid (OwnV 3 w22 w6.heap.size (.slice AM yM.length cM) (ints yM)) := own_below M_21.out b22
  clear c_21 X_21 A_21 M_21
  clear b22
  have hne : (setsTxt xs == setsTxt xs) = true := by simp
  go_wp2_with fail
  refine (setsTextS _ xs w22 (own_reads X_22.out) (by omega)).mono ?_
  rintro e w23 ⟨rfl, b23⟩
  have c_23 : Hid (Below w.heap.size w w23) := nxt c_22.out b23
  have X_23 : Hid (OwnV 3 w23 w4.heap.size (.slice AX xs.length cX) (ints xs)) := own_below X_22.out b23
  have A_23 : Hid (OwnV 3 w23 w5.heap.size (.slice AA yA.length cA) (ints yA)) := own_below A_22.out b23
  have M_23 : Hid (OwnV 3 w23 w6.heap.size (.slice AM yM.length cM) (ints yM)) := own_below M_22.out b23
  clear c_22 X_22 A_22 M_22
  clear b23
  go_wp2_with fail
  refine (setTextI s w23).mono ?_
  rintro e w24 ⟨rfl, b24⟩
  have c_24 : Hid (Below w.heap.size w w24) := nxt c_23.out b24
  have X_24 : Hid (OwnV 3 w24 w4.heap.size (.slice AX xs.length cX) (ints xs)) := own_below X_23.out b24
  have A_24 : Hid (OwnV 3 w24 w5.heap.size (.slice AA yA.length cA) (ints yA)) := own_below A_23.out b24
  have M_24 : Hid (OwnV 3 w24 w6.heap.size (.slice AM yM.length cM) (ints yM)) := own_below M_23.out b24
  clear c_23 X_23 A_23 M_23
  clear b24
  have ht6 := setTxtOf_len2 s
  have hne2 : (setTxtOf s == setTxtOf s) = true := by simp
  by_cases hset : 0 ≤ s ∧ s < 64
  · skip
    obtain ⟨m, rfl⟩ := Int.eq_ofNat_of_zero_le hset.1
    have hm : m < 64 := by omega
    have hps := parse_txt hm
    have Hps := hide hps
    clear hps hset
    go_wp2_with fail
    refine (parseSetI2 (setTxtOf ((m : Nat) : Int)) w24 (by omega)).mono ?_
    rw [Hps.out]
    rintro e w25 ⟨rfl, b25⟩
    have c_25 : Hid (Below w.heap.size w w25) := nxt c_24.out b25
    have X_25 : Hid (OwnV 3 w25 w4.heap.size (.slice AX xs.length cX) (ints xs)) := own_below X_24.out b25
    have A_25 : Hid (OwnV 3 w25 w5.heap.size (.slice AA yA.length cA) (ints yA)) := own_below A_24.out b25
    have M_25 : Hid (OwnV 3 w25 w6.heap.size (.slice AM yM.length cM) (ints yM)) := own_below M_24.out b25
    clear c_24 X_24 A_24 M_24
    clear b25
    go_wp2_with fail
    refine (setTextS ((m : Nat) : Int) w25).mono ?_
    rintro e w26 ⟨rfl, b26⟩
    have c_26 : Hid (Below w.heap.size w w26) := nxt c_25.out b26
    have X_26 : Hid (OwnV 3 w26 w4.heap.size (.slice AX xs.length cX) (ints xs)) := own_below X_25.out b26
    have A_26 : Hid (OwnV 3 w26 w5.heap.size (.slice AA yA.length cA) (ints yA)) := own_below A_25.out b26
    have M_26 : Hid (OwnV 3 w26 w6.heap.size (.slice AM yM.length cM) (ints yM)) := own_below M_25.out b26
    clear c_25 X_25 A_25 M_25
    clear b26
    have HA := hide (own_reads A_26.out)
    have HX := hide (own_reads X_26.out)
    have hmx : ∀ k m2, (maxSets xs)[k]? = some m2 → m2 ∈ maxSets xs := fun k m2 hh => List.mem_of_getElem? hh
    have Hmx := hide hmx
    clear hmx
    have HA2 : Hid (IntsAt w26 w26.heap.size (.slice AA yA.length cA) (zs (maxSets xs))) := by show IntsAt _ _ _ _; rw [← HyA.out]; exact HA.out
    obtain ⟨AA2, cA2, hvA, heA⟩ := zsElems HA2.out
    rw [HyA.out] at hvA
    have HlA : Hid (yA.length = (maxSets xs).length) := by show _ = _; rw [HyA.out, zsl]
    have hlA6 := HL.out.1
    obtain ⟨AX2, cX2, hvX, _, heX⟩ := form_ HX.out
    cases hvX
    rw [zsl] at hvA
    cases hvA
    have HeA := hide heA
    have HeX := hide heX
    clear heA heX
    skip
    go_wp2_with fail
    go_loopw [18, 19] (fun i _ wr => ∃ (k nn : Nat), k ≤ yA.length ∧ i = .int .i64 k ∧ wr = w26.drewN nn) (fun i _ _ => yA.length - (intOf i).toNat)
    case atStart => exact ⟨0, 0, by omega, rfl, rfl⟩
    case round =>
      obtain ⟨k, nn, hk, rfl, rfl⟩ := hrel
      by_cases hlt : k < yA.length
      · obtain ⟨b1, o1, m1, hA1, hm1, hc1⟩ := HeA.out k (by have := HlA.out; omega)
        cases hA1
        have Hm1 := hide (Hmx.out k m1 hm1)
        clear hm1
        go_wp2_with fail
        go_loopw [19] (fun i wr => ∃ (j nn : Nat), j ≤ xs.length ∧ i = .int .i64 j ∧ wr = w26.drewN nn) (fun i _ => xs.length - (intOf i).toNat)
        case atStart => exact ⟨0, nn, by omega, rfl, rfl⟩
        case round =>
          obtain ⟨j, n2, hj, rfl, rfl⟩ := hrel
          by_cases hlt2 : j < xs.length
          · obtain ⟨b2, o2, x, hA2, _, hx, hc2⟩ := HeX.out j hlt2
            cases hA2
            obtain ⟨hm64, X, hxe, hX64, hov⟩ := max_over Hm1.out (List.mem_of_getElem? hx)
            subst hxe
            clear hx
            by_cases he : X = m1
            · subst he
              have hne3 : ((X : Int) != (X : Int)) = false := by simp
              go_wp2
              go_quiet (fail)
              go_wp2
              go_roundw
              case rel => exact ⟨j + 1, _, by omega, by go_num, rfl⟩
              case measure => simp [intOf]; omega
            · have hne3 : ((X : Int) != (m1 : Int)) = true := by rw [bne_iff_ne]; omega
              have hbit := over_bits hm64 hX64 (hov.resolve_left he)
              clear hov
              go_wp2
              go_quiet (fail)
              go_wp2
              go_roundw
              case rel => exact ⟨j + 1, _, by omega, by go_num, rfl⟩
              case measure => simp [intOf]; omega
          · have hj2 : xs.length ≤ j := by omega
            go_wp2
            go_roundw
            case rel => exact ⟨k + 1, _, by omega, by go_num, rfl⟩
            case measure => simp [intOf]; omega
      · have hk2 : yA.length ≤ k := by omega
        go_wp2_with fail
        refine (asI (subsetsOfI (m : Int) _) HyS.out).mono ?_
        rintro e wz ⟨vz, rfl, oz, bz⟩
        obtain ⟨Az, cz, rfl⟩ := own_shape oz
        have Bz : Hid (Below w.heap.size w wz) := nxt (below_drewN c_26.out nn) bz
        have hzl : yS.length = 2 ^ pc m := by rw [HyS.out, zsl, subs_len hm]
        have hpc := pc_le6 m hm
        have hp2 : (2 : Int) ^ pc m = (yS.length : Int) := by rw [hzl]; simp
        have hyl : yS.length ≤ 64 := by rw [hzl]; exact Nat.pow_le_pow_right (by decide : 0 < 2) hpc
        clear oz bz hzl
        go_wp2_with (go_at_call 94; refine (sizeOfI _ _).mono ?_; rw [sizeOf_yes hm]; rintro e wx ⟨rfl, rfl⟩)
        go_ret
        exact ⟨rfl, Bz.out⟩
  · skip
    have Hps := hide (parse_txt_no hset)
    have hs64 : s < 0 ∨ 63 < s := by omega
    clear hset
    go_wp2_with fail
    refine (parseSetI2 (setTxtOf s) w24 (by omega)).mono ?_
    rw [Hps.out]
    rintro e w25 ⟨rfl, b25⟩
    have c_25 : Hid (Below w.heap.size w w25) := nxt c_24.out b25
    have X_25 : Hid (OwnV 3 w25 w4.heap.size (.slice AX xs.length cX) (ints xs)) := own_below X_24.out b25
    have A_25 : Hid (OwnV 3 w25 w5.heap.size (.slice AA yA.length cA) (ints yA)) := own_below A_24.out b25
    have M_25 : Hid (OwnV 3 w25 w6.heap.size (.slice AM yM.length cM) (ints yM)) := own_below M_24.out b25
    clear c_24 X_24 A_24 M_24
    clear b25
    rcases hs64 with hs64 | hs64
    all_goals (
      go_wp2_with fail
      refine (setTextS s w25).mono ?_
      rintro e w26 ⟨rfl, b26⟩
      have c_26 : Hid (Below w.heap.size w w26) := nxt c_25.out b26
      have X_26 : Hid (OwnV 3 w26 w4.heap.size (.slice AX xs.length cX) (ints xs)) := own_below X_25.out b26
      have A_26 : Hid (OwnV 3 w26 w5.heap.size (.slice AA yA.length cA) (ints yA)) := own_below A_25.out b26
      have M_26 : Hid (OwnV 3 w26 w6.heap.size (.slice AM yM.length cM) (ints yM)) := own_below M_25.out b26
      clear c_25 X_25 A_25 M_25
      clear b26
      have HA := hide (own_reads A_26.out)
      have HX := hide (own_reads X_26.out)
      have hmx : ∀ k m2, (maxSets xs)[k]? = some m2 → m2 ∈ maxSets xs := fun k m2 hh => List.mem_of_getElem? hh
      have Hmx := hide hmx
      clear hmx
      have HA2 : Hid (IntsAt w26 w26.heap.size (.slice AA yA.length cA) (zs (maxSets xs))) := by show IntsAt _ _ _ _; rw [← HyA.out]; exact HA.out
      obtain ⟨AA2, cA2, hvA, heA⟩ := zsElems HA2.out
      rw [HyA.out] at hvA
      have HlA : Hid (yA.length = (maxSets xs).length) := by show _ = _; rw [HyA.out, zsl]
      have hlA6 := HL.out.1
      obtain ⟨AX2, cX2, hvX, _, heX⟩ := form_ HX.out
      cases hvX
      rw [zsl] at hvA
      cases hvA
      have HeA := hide heA
      have HeX := hide heX
      clear heA heX
      skip
      go_wp2_with fail
      go_loopw [18, 19] (fun i _ wr => ∃ (k nn : Nat), k ≤ yA.length ∧ i = .int .i64 k ∧ wr = w26.drewN nn) (fun i _ _ => yA.length - (intOf i).toNat)
      case atStart => exact ⟨0, 0, by omega, rfl, rfl⟩
      case round =>
        obtain ⟨k, nn, hk, rfl, rfl⟩ := hrel
        by_cases hlt : k < yA.length
        · obtain ⟨b1, o1, m1, hA1, hm1, hc1⟩ := HeA.out k (by have := HlA.out; omega)
          cases hA1
          have Hm1 := hide (Hmx.out k m1 hm1)
          clear hm1
          go_wp2_with fail
          go_loopw [19] (fun i wr => ∃ (j nn : Nat), j ≤ xs.length ∧ i = .int .i64 j ∧ wr = w26.drewN nn) (fun i _ => xs.length - (intOf i).toNat)
          case atStart => exact ⟨0, nn, by omega, rfl, rfl⟩
          case round =>
            obtain ⟨j, n2, hj, rfl, rfl⟩ := hrel
            by_cases hlt2 : j < xs.length
            · obtain ⟨b2, o2, x, hA2, _, hx, hc2⟩ := HeX.out j hlt2
              cases hA2
              obtain ⟨hm64, X, hxe, hX64, hov⟩ := max_over Hm1.out (List.mem_of_getElem? hx)
              subst hxe
              clear hx
              by_cases he : X = m1
              · subst he
                have hne3 : ((X : Int) != (X : Int)) = false := by simp
                go_wp2
                go_quiet (fail)
                go_wp2
                go_roundw
                case rel => exact ⟨j + 1, _, by omega, by go_num, rfl⟩
                case measure => simp [intOf]; omega
              · have hne3 : ((X : Int) != (m1 : Int)) = true := by rw [bne_iff_ne]; omega
                have hbit := over_bits hm64 hX64 (hov.resolve_left he)
                clear hov
                go_wp2
                go_quiet (fail)
                go_wp2
                go_roundw
                case rel => exact ⟨j + 1, _, by omega, by go_num, rfl⟩
                case measure => simp [intOf]; omega
            · have hj2 : xs.length ≤ j := by omega
              go_wp2
              go_roundw
              case rel => exact ⟨k + 1, _, by omega, by go_num, rfl⟩
              case measure => simp [intOf]; omega
        · have hk2 : yA.length ≤ k := by omega
          go_wp2
          go_ret
          exact ⟨rfl, below_drewN c_26.out nn⟩)

set_option maxRecDepth 100000 in
theorem lifted_FnSets (os : Os) (started : os.Started) (H : Type) (enc : TypeId × Value → H) :
    ReturnsInHanded {} Try.checked os 11 .any (Rows.fnSetsSpec.pre6 enc Try.prog Try.f11 Rows.fnSetsRow.domain false) (Rows.fnSetsSpec.post enc Try.prog Try.f11 false true false false) := by
  refine returnsInHanded_of_change (C := Try.checked) own started (by kernel_rfl) Try.func11
    (ChangeSpec.witness6 (enc := enc) (C := Try.checked) false ⟨#[], #[.slice none 0 0], []⟩ 8 (by kernel_rfl) (by kernel_rfl) (by kernel_rfl) (by kernel_rfl)) ?_
  intro W base args ds gs before hval0 hW hcnd _
  have hval : ∀ (j : Nat) t v, Try.f11.params[j]? = some t → args[j]? = some v → Value.okWide Try.prog W .any base t v := hval0
  have hW' := hW
  obtain ⟨p, q, hA0, hV, rfl, hfz, hnd⟩ := hW
  have hA : DataW.TrodAll enc Try.prog W 0 (fun _ => true) true Try.f11.params.toList args.toList ds p := hA0
  rw [Try.params11] at hA hval
  have hB := fun W' => back_all (enc := enc) (W' := W') laidOut _ _ _ _ (show AllR Try.prog [31] from ⟨⟨by kernel_rfl, of_decide_eq_true (by kernel_rfl)⟩, trivial⟩) hA
  obtain ⟨v0, vs0, d0, ds0, p0, q0, hargs, rfl, rfl, h0, r0⟩ := trodAll_cons hA
  obtain ⟨rfl, rfl, rfl⟩ := trodAll_nil r0
  obtain rfl : args = #[v0] := by cases args; simp_all
  obtain ⟨rfl, rfl⟩ := trodVars_none hV
  obtain ⟨ls0, rd0, bl0⟩ := openBytes Try.underlying31 Try.underlying5 (by kernel_rfl) h0 (okWide_slice Try.underlying31 (hval 0 31 v0 rfl rfl))
  clear hA0 hval0
  refine (walk_FnSets W v0 ls0 rd0 bl0).mono fun e W' ⟨he, bel⟩ => ?_
  subst he
  exact ⟨_, rfl, _, _, _, [], _, [], hW', trodAll_mk1 (shut_bool Try.underlying4 _), hB W' bel, rfl, bel.frame _, fun h => by cases h⟩

theorem FnSets_holds : Rows.FnSetsSaid :=
  OpenClaim.holds_of_wide 11 Try.f11 rfl rfl rfl rfl rfl rfl rfl ⟨rfl, rfl, rfl, rfl, rfl⟩ rfl rfl rfl rfl rfl (by kernel_rfl) Try.func11 (by kernel_rfl)
    (of_decide_eq_true (by kernel_rfl)) (by unfold Func.isWrapper; first | (rw [if_pos (by decide +kernel)]; kernel_rfl) | (rw [if_neg (by decide +kernel)]; exact ⟨rfl, rfl⟩))
    (fun os started H enc _ => lifted_FnSets os started H enc)
end Go.Proofs.Ytmkacjpjcfffmaa
