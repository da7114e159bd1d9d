/- The law FnParts. No condition. -/
import Derived.Deep.DeepCutAuto
import Derived.Deep.RegionHeld3
import Derived.Test.YtmkacjpjcfffmaaP14
import Derived.Test.YtmkacjpjcfffmaaP15
import Derived.Test.YtmkacjpjcfffmaaP17
import Derived.Test.YtmkacjpjcfffmaaP18
namespace Go.Proofs.Ytmkacjpjcfffmaa
open Go.ChangeShapes Go.WideShapes Go.ChangeAt Go.RowKit
open Go.ChangeMaps (open_string shut_string)
set_option linter.unusedVariables false

set_option maxHeartbeats 40000000 in
set_option maxRecDepth 100000 in
theorem walk_FnParts (w : World) (v0 : Value) (ls0 : List UInt8) (rd0 : BytesAt w w.heap.size v0 ls0) (bl0 : ls0.length ≤ 9223372036854775807) : Calls Try.prog 10 #[v0] w fun e w' => RetB w true e w' := by
  have Rd0 := hide rd0
  obtain ⟨A0, k0, hv0, hk0, hrest⟩ := rd0
  have hl0 : (bytesV ls0).length = ls0.length := List.length_map _
  rw [hl0] at hv0
  subst hv0
  clear hrest hk0 hl0
  by_cases hgd : (1048576 : Int) < (ls0.length : Int)
  · have hd := hide (decide_eq_true hgd)
    clear hgd
    go_enter Try.func10, Try.ntmps10
    go_wp2_with fail
    refine (bigS _ ls0 w Rd0.out).mono ?_
    rw [hd.out]
    rintro e w' ⟨rfl, rfl⟩
    go_wp2
    go_ret
    exact ⟨rfl, Below.refl _ _⟩
  have hd := hide (decide_eq_false hgd)
  have hgd2 : ls0.length ≤ 1048576 := by omega
  clear hgd
  go_enter Try.func10, Try.ntmps10
  go_wp2_with fail
  refine (bigS _ ls0 w Rd0.out).mono ?_
  rw [hd.out]
  rintro e w' ⟨rfl, rfl⟩
  go_wp2_with fail
  refine (drawStarOfS _ ls0 w (nowB_ Rd0.out (Below.refl _ _)) (by omega)).mono ?_
  rintro e w1 ⟨n0, vx, xs0, t0, hf0, ht0, ht0b, rfl, ox, b1⟩
  have B0 := hide b1
  clear b1
  obtain ⟨Ax, cx, rfl⟩ := own_shape ox
  have Ox := hide ox
  clear ox
  have hl0 : xs0.length ≤ 1000 := hf0.2.2.1
  clear hf0
  obtain ⟨ok0, hok0⟩ : ∃ y, y = setOk n0 xs0 t0 := ⟨_, rfl⟩
  have Hok0 := hide hok0
  clear hok0
  obtain ⟨N0, hN0⟩ : ∃ y, y = cbN (setOk n0 xs0 t0) n0 := ⟨_, rfl⟩
  have HN0 := hide hN0
  clear hN0
  obtain ⟨yA, hyA⟩ : ∃ y, y = cbXs (setOk n0 xs0 t0) (maxOf (linkP (faceP xs0) t0.toNat)) := ⟨_, rfl⟩
  have HyA := hide hyA
  clear hyA
  obtain ⟨yS, hyS⟩ : ∃ y, y = cbXs (setOk n0 xs0 t0) (starL n0 xs0 t0.toNat) := ⟨_, rfl⟩
  have HyS := hide hyS
  clear hyS
  obtain ⟨yD, hyD⟩ : ∃ y, y = cbXs (setOk n0 xs0 t0) (delL xs0 t0.toNat) := ⟨_, rfl⟩
  have HyD := hide hyD
  clear hyD
  have lA : yA.length ≤ 64 := by rw [HyA.out]; exact cbXs_64 _ _
  have lS : yS.length ≤ 64 := by rw [HyS.out]; exact cbXs_64 _ _
  have lD : yD.length ≤ 64 := by rw [HyD.out]; exact cbXs_64 _ _
  obtain ⟨w2, hW2, atbx, b2, z2⟩ := boxC w1 (.int .i64 n0) (.slice Ax xs0.length cx) 42
  have Tbx := hide atbx
  clear atbx z2
  have B1 := hide b2
  clear b2
  obtain ⟨p1_0, p1_1⟩ : AtC w2 w1.heap.size (.int .i64 n0) (.slice Ax xs0.length cx) := Tbx.out
  go_wp2_with fail
  clear p1_0 p1_1 hW2
  refine (asCB (linkOfI n0 _ xs0 t0 w2 (now_ (own_reads Ox.out) B1.out) (by omega)) HN0.out HyA.out Hok0.out).mono ?_
  rintro e w3 ⟨vAI, rfl, oAI, b3⟩
  have B2 := hide b3
  clear b3
  obtain ⟨AAI, cAI, rfl⟩ := own_shape oAI
  have OAI := hide oAI
  clear oAI
  obtain ⟨w4, hW4, atbAI, b4, z4⟩ := boxC w3 (.int .i64 N0) (.slice AAI yA.length cAI) 42
  have TbAI := hide atbAI
  clear atbAI z4
  have B3 := hide b4
  clear b4
  obtain ⟨p2_0, p2_1⟩ : AtC w4 w1.heap.size (.int .i64 n0) (.slice Ax xs0.length cx) := (AtC.to Tbx.out (nxt B2.out B3.out))
  go_wp2_with fail
  clear p2_0 p2_1 hW4
  refine (asCB (linkOfS n0 _ xs0 t0 w4 (now_ (own_reads Ox.out) (nxt (nxt B1.out B2.out) B3.out)) (by omega)) HN0.out HyA.out Hok0.out).mono ?_
  rintro e w5 ⟨vAS, rfl, oAS, b5⟩
  have B4 := hide b5
  clear b5
  obtain ⟨AAS, cAS, rfl⟩ := own_shape oAS
  have OAS := hide oAS
  clear oAS
  obtain ⟨w6, hW6, atbAS, b6, z6⟩ := boxC w5 (.int .i64 N0) (.slice AAS yA.length cAS) 42
  have TbAS := hide atbAS
  clear atbAS z6
  have B5 := hide b6
  clear b6
  obtain ⟨p3_0, p3_1⟩ : AtC w6 w1.heap.size (.int .i64 n0) (.slice Ax xs0.length cx) := (AtC.to Tbx.out (nxt (nxt (nxt B2.out B3.out) B4.out) B5.out))
  go_wp2_with fail
  clear p3_0 p3_1 hW6
  refine (asCB (starOfI n0 _ xs0 t0 w6 (now_ (own_reads Ox.out) (nxt (nxt (nxt (nxt B1.out B2.out) B3.out) B4.out) B5.out)) (by omega)) HN0.out HyS.out Hok0.out).mono ?_
  rintro e w7 ⟨vSI, rfl, oSI, b7⟩
  have B6 := hide b7
  clear b7
  obtain ⟨ASI, cSI, rfl⟩ := own_shape oSI
  have OSI := hide oSI
  clear oSI
  obtain ⟨w8, hW8, atbSI, b8, z8⟩ := boxC w7 (.int .i64 N0) (.slice ASI yS.length cSI) 42
  have TbSI := hide atbSI
  clear atbSI z8
  have B7 := hide b8
  clear b8
  obtain ⟨p4_0, p4_1⟩ : AtC w8 w1.heap.size (.int .i64 n0) (.slice Ax xs0.length cx) := (AtC.to Tbx.out (nxt (nxt (nxt (nxt (nxt B2.out B3.out) B4.out) B5.out) B6.out) B7.out))
  go_wp2_with fail
  clear p4_0 p4_1 hW8
  refine (asCB (starOfS n0 _ xs0 t0 w8 (now_ (own_reads Ox.out) (nxt (nxt (nxt (nxt (nxt (nxt B1.out B2.out) B3.out) B4.out) B5.out) B6.out) B7.out)) (by omega)) HN0.out HyS.out Hok0.out).mono ?_
  rintro e w9 ⟨vSS, rfl, oSS, b9⟩
  have B8 := hide b9
  clear b9
  obtain ⟨ASS, cSS, rfl⟩ := own_shape oSS
  have OSS := hide oSS
  clear oSS
  obtain ⟨w10, hW10, atbSS, b10, z10⟩ := boxC w9 (.int .i64 N0) (.slice ASS yS.length cSS) 42
  have TbSS := hide atbSS
  clear atbSS z10
  have B9 := hide b10
  clear b10
  obtain ⟨p5_0, p5_1⟩ : AtC w10 w1.heap.size (.int .i64 n0) (.slice Ax xs0.length cx) := (AtC.to Tbx.out (nxt (nxt (nxt (nxt (nxt (nxt (nxt B2.out B3.out) B4.out) B5.out) B6.out) B7.out) B8.out) B9.out))
  go_wp2_with fail
  clear p5_0 p5_1 hW10
  refine (asCB (deletionOfI n0 _ xs0 t0 w10 (now_ (own_reads Ox.out) (nxt (nxt (nxt (nxt (nxt (nxt (nxt (nxt B1.out B2.out) B3.out) B4.out) B5.out) B6.out) B7.out) B8.out) B9.out)) (by omega)) HN0.out HyD.out Hok0.out).mono ?_
  rintro e w11 ⟨vDI, rfl, oDI, b11⟩
  have B10 := hide b11
  clear b11
  obtain ⟨ADI, cDI, rfl⟩ := own_shape oDI
  have ODI := hide oDI
  clear oDI
  obtain ⟨w12, hW12, atbDI, b12, z12⟩ := boxC w11 (.int .i64 N0) (.slice ADI yD.length cDI) 42
  have TbDI := hide atbDI
  clear atbDI z12
  have B11 := hide b12
  clear b12
  obtain ⟨p6_0, p6_1⟩ : AtC w12 w1.heap.size (.int .i64 n0) (.slice Ax xs0.length cx) := (AtC.to Tbx.out (nxt (nxt (nxt (nxt (nxt (nxt (nxt (nxt (nxt B2.out B3.out) B4.out) B5.out) B6.out) B7.out) B8.out) B9.out) B10.out) B11.out))
  go_wp2_with fail
  clear p6_0 p6_1 hW12
  refine (asCB (deletionOfS n0 _ xs0 t0 w12 (now_ (own_reads Ox.out) (nxt (nxt (nxt (nxt (nxt (nxt (nxt (nxt (nxt (nxt B1.out B2.out) B3.out) B4.out) B5.out) B6.out) B7.out) B8.out) B9.out) B10.out) B11.out)) (by omega)) HN0.out HyD.out Hok0.out).mono ?_
  rintro e w13 ⟨vDS, rfl, oDS, b13⟩
  have B12 := hide b13
  clear b13
  obtain ⟨ADS, cDS, rfl⟩ := own_shape oDS
  have ODS := hide oDS
  clear oDS
  obtain ⟨w14, hW14, atbDS, b14, z14⟩ := boxC w13 (.int .i64 N0) (.slice ADS yD.length cDS) 42
  have TbDS := hide atbDS
  clear atbDS z14
  have B13 := hide b14
  clear b14
  go_wp2_with fail
  clear hW14
  refine (drawSkeletonOfS _ ls0 w14 (nowB_ Rd0.out (nxt (nxt (nxt (nxt (nxt (nxt (nxt (nxt (nxt (nxt (nxt (nxt (nxt B0.out B1.out) B2.out) B3.out) B4.out) B5.out) B6.out) B7.out) B8.out) B9.out) B10.out) B11.out) B12.out) B13.out)) (by omega)).mono ?_
  rintro e w15 ⟨n1, vk, xs1, t1, hf1, ht1, ht1b, rfl, ok_, b15⟩
  have B14 := hide b15
  clear b15
  obtain ⟨Ak, ck, rfl⟩ := own_shape ok_
  have Ok := hide ok_
  clear ok_
  have hl1 : xs1.length ≤ 1000 := hf1.2.2.1
  clear hf1
  obtain ⟨ok1, hok1⟩ : ∃ y, y = skOk n1 xs1 t1 := ⟨_, rfl⟩
  have Hok1 := hide hok1
  clear hok1
  obtain ⟨N1, hN1⟩ : ∃ y, y = cbN (skOk n1 xs1 t1) n1 := ⟨_, rfl⟩
  have HN1 := hide hN1
  clear hN1
  obtain ⟨yK, hyK⟩ : ∃ y, y = cbXs (skOk n1 xs1 t1) (maxOf (skelP (faceP xs1) t1)) := ⟨_, rfl⟩
  have HyK := hide hyK
  clear hyK
  have lK : yK.length ≤ 64 := by rw [HyK.out]; exact cbXs_64 _ _
  obtain ⟨w16, hW16, atbk, b16, z16⟩ := boxC w15 (.int .i64 n1) (.slice Ak xs1.length ck) 42
  have Tbk := hide atbk
  clear atbk z16
  have B15 := hide b16
  clear b16
  obtain ⟨p7_0, p7_1⟩ : AtC w16 w15.heap.size (.int .i64 n1) (.slice Ak xs1.length ck) := Tbk.out
  go_wp2_with fail
  clear p7_0 p7_1 hW16
  refine (asCB (skeletonOfI n1 _ xs1 t1 w16 (now_ (own_reads Ok.out) B15.out) (by omega)) HN1.out HyK.out Hok1.out).mono ?_
  rintro e w17 ⟨vKI, rfl, oKI, b17⟩
  have B16 := hide b17
  clear b17
  obtain ⟨AKI, cKI, rfl⟩ := own_shape oKI
  have OKI := hide oKI
  clear oKI
  obtain ⟨w18, hW18, atbKI, b18, z18⟩ := boxC w17 (.int .i64 N1) (.slice AKI yK.length cKI) 42
  have TbKI := hide atbKI
  clear atbKI z18
  have B17 := hide b18
  clear b18
  obtain ⟨p8_0, p8_1⟩ : AtC w18 w15.heap.size (.int .i64 n1) (.slice Ak xs1.length ck) := (AtC.to Tbk.out (nxt B16.out B17.out))
  go_wp2_with fail
  clear p8_0 p8_1 hW18
  refine (asCB (skeletonOfS n1 _ xs1 t1 w18 (now_ (own_reads Ok.out) (nxt (nxt B15.out B16.out) B17.out)) (by omega)) HN1.out HyK.out Hok1.out).mono ?_
  rintro e w19 ⟨vKS, rfl, oKS, b19⟩
  have B18 := hide b19
  clear b19
  obtain ⟨AKS, cKS, rfl⟩ := own_shape oKS
  have OKS := hide oKS
  clear oKS
  obtain ⟨w20, hW20, atbKS, b20, z20⟩ := boxC w19 (.int .i64 N1) (.slice AKS yK.length cKS) 42
  have TbKS := hide atbKS
  clear atbKS z20
  have B19 := hide b20
  clear b20
  go_wp2_with fail
  clear hW20
  refine (drawInducedOfS _ ls0 w20 (nowB_ Rd0.out (nxt (nxt (nxt (nxt (nxt (nxt (nxt (nxt (nxt (nxt (nxt (nxt (nxt (nxt (nxt (nxt (nxt (nxt (nxt B0.out B1.out) B2.out) B3.out) B4.out) B5.out) B6.out) B7.out) B8.out) B9.out) B10.out) B11.out) B12.out) B13.out) B14.out) B15.out) B16.out) B17.out) B18.out) B19.out)) (by omega)).mono ?_
  rintro e w21 ⟨n2, vi, xs2, t2, hf2, ht2, ht2b, rfl, oi, b21⟩
  have B20 := hide b21
  clear b21
  obtain ⟨Ai, ci, rfl⟩ := own_shape oi
  have Oi := hide oi
  clear oi
  have hl2 : xs2.length ≤ 1000 := hf2.2.2.1
  clear hf2
  obtain ⟨ok2, hok2⟩ : ∃ y, y = setOk n2 xs2 t2 := ⟨_, rfl⟩
  have Hok2 := hide hok2
  clear hok2
  obtain ⟨N2, hN2⟩ : ∃ y, y = cbN (setOk n2 xs2 t2) n2 := ⟨_, rfl⟩
  have HN2 := hide hN2
  clear hN2
  obtain ⟨yI, hyI⟩ : ∃ y, y = cbXs (setOk n2 xs2 t2) (maxOf (fun u => faceP xs2 u && sub u t2.toNat)) := ⟨_, rfl⟩
  have HyI := hide hyI
  clear hyI
  have lI : yI.length ≤ 64 := by rw [HyI.out]; exact cbXs_64 _ _
  obtain ⟨w22, hW22, atbi, b22, z22⟩ := boxC w21 (.int .i64 n2) (.slice Ai xs2.length ci) 42
  have Tbi := hide atbi
  clear atbi z22
  have B21 := hide b22
  clear b22
  obtain ⟨p9_0, p9_1⟩ : AtC w22 w21.heap.size (.int .i64 n2) (.slice Ai xs2.length ci) := Tbi.out
  go_wp2_with fail
  clear p9_0 p9_1 hW22
  refine (asCB (inducedOfI n2 _ xs2 t2 w22 (now_ (own_reads Oi.out) B21.out) (by omega)) HN2.out HyI.out Hok2.out).mono ?_
  rintro e w23 ⟨vJI, rfl, oJI, b23⟩
  have B22 := hide b23
  clear b23
  obtain ⟨AJI, cJI, rfl⟩ := own_shape oJI
  have OJI := hide oJI
  clear oJI
  obtain ⟨w24, hW24, atbJI, b24, z24⟩ := boxC w23 (.int .i64 N2) (.slice AJI yI.length cJI) 42
  have TbJI := hide atbJI
  clear atbJI z24
  have B23 := hide b24
  clear b24
  obtain ⟨p10_0, p10_1⟩ : AtC w24 w21.heap.size (.int .i64 n2) (.slice Ai xs2.length ci) := (AtC.to Tbi.out (nxt B22.out B23.out))
  go_wp2_with fail
  clear p10_0 p10_1 hW24
  refine (asCB (inducedOfS n2 _ xs2 t2 w24 (now_ (own_reads Oi.out) (nxt (nxt B21.out B22.out) B23.out)) (by omega)) HN2.out HyI.out Hok2.out).mono ?_
  rintro e w25 ⟨vJS, rfl, oJS, b25⟩
  have B24 := hide b25
  clear b25
  obtain ⟨AJS, cJS, rfl⟩ := own_shape oJS
  have OJS := hide oJS
  clear oJS
  obtain ⟨w26, hW26, atbJS, b26, z26⟩ := boxC w25 (.int .i64 N2) (.slice AJS yI.length cJS) 42
  have TbJS := hide atbJS
  clear atbJS z26
  have B25 := hide b26
  clear b26
  go_wp2_with fail
  clear hW26
  refine (drawMeetOfS _ ls0 w26 (nowB_ Rd0.out (nxt (nxt (nxt (nxt (nxt (nxt (nxt (nxt (nxt (nxt (nxt (nxt (nxt (nxt (nxt (nxt (nxt (nxt (nxt (nxt (nxt (nxt (nxt (nxt (nxt B0.out B1.out) B2.out) B3.out) B4.out) B5.out) B6.out) B7.out) B8.out) B9.out) B10.out) B11.out) B12.out) B13.out) B14.out) B15.out) B16.out) B17.out) B18.out) B19.out) B20.out) B21.out) B22.out) B23.out) B24.out) B25.out)) (by omega)).mono ?_
  rintro e w27 ⟨n3, vm, xs3, n4, vn, xs4, hf3, hf4, rfl, om, on, b27⟩
  have B26 := hide b27
  clear b27
  obtain ⟨Am, cm, rfl⟩ := own_shape om
  have Om := hide om
  clear om
  obtain ⟨An, cn, rfl⟩ := own_shape on
  have On := hide on
  clear on
  have hl3 : xs3.length ≤ 1000 := hf3.2.2.1
  have hl4 : xs4.length ≤ 1000 := hf4.2.2.1
  clear hf3 hf4
  obtain ⟨ok3, hok3⟩ : ∃ y, y = sameOk n3 n4 xs3 xs4 := ⟨_, rfl⟩
  have Hok3 := hide hok3
  clear hok3
  obtain ⟨N3, hN3⟩ : ∃ y, y = cbN (sameOk n3 n4 xs3 xs4) n3 := ⟨_, rfl⟩
  have HN3 := hide hN3
  clear hN3
  obtain ⟨yU, hyU⟩ : ∃ y, y = cbXs (sameOk n3 n4 xs3 xs4) (maxOf (fun s => faceP xs3 s || faceP xs4 s)) := ⟨_, rfl⟩
  have HyU := hide hyU
  clear hyU
  obtain ⟨yM, hyM⟩ : ∃ y, y = cbXs (sameOk n3 n4 xs3 xs4) (maxOf (fun s => faceP xs3 s && faceP xs4 s)) := ⟨_, rfl⟩
  have HyM := hide hyM
  clear hyM
  have lU : yU.length ≤ 64 := by rw [HyU.out]; exact cbXs_64 _ _
  have lM : yM.length ≤ 64 := by rw [HyM.out]; exact cbXs_64 _ _
  obtain ⟨w28, hW28, atbm, atbn, b28, z28⟩ := boxTwo w27 (.int .i64 n3) (.slice Am xs3.length cm) (.int .i64 n4) (.slice An xs4.length cn) 42
  have Tbm := hide atbm
  have Tbn := hide atbn
  clear atbm atbn z28
  have B27 := hide b28
  clear b28
  obtain ⟨p11_0, p11_1⟩ : AtC w28 w27.heap.size (.int .i64 n3) (.slice Am xs3.length cm) := Tbm.out
  obtain ⟨p12_0, p12_1⟩ : AtC w28 (w27.heap.size + 1) (.int .i64 n4) (.slice An xs4.length cn) := Tbn.out
  go_wp2_with fail
  clear p11_0 p11_1 p12_0 p12_1 hW28
  refine (asCB (unionOfI n3 _ xs3 n4 _ xs4 w28 (now_ (own_reads Om.out) B27.out) (now_ (own_reads On.out) B27.out) (by omega) (by omega)) HN3.out HyU.out Hok3.out).mono ?_
  rintro e w29 ⟨vUI, rfl, oUI, b29⟩
  have B28 := hide b29
  clear b29
  obtain ⟨AUI, cUI, rfl⟩ := own_shape oUI
  have OUI := hide oUI
  clear oUI
  obtain ⟨w30, hW30, atbUI, b30, z30⟩ := boxC w29 (.int .i64 N3) (.slice AUI yU.length cUI) 42
  have TbUI := hide atbUI
  clear atbUI z30
  have B29 := hide b30
  clear b30
  obtain ⟨p13_0, p13_1⟩ : AtC w30 w27.heap.size (.int .i64 n3) (.slice Am xs3.length cm) := (AtC.to Tbm.out (nxt B28.out B29.out))
  obtain ⟨p14_0, p14_1⟩ : AtC w30 (w27.heap.size + 1) (.int .i64 n4) (.slice An xs4.length cn) := (AtC.to Tbn.out (nxt B28.out B29.out))
  go_wp2_with fail
  clear p13_0 p13_1 p14_0 p14_1 hW30
  refine (asCB (unionOfS n3 _ xs3 n4 _ xs4 w30 (now_ (own_reads Om.out) (nxt (nxt B27.out B28.out) B29.out)) (now_ (own_reads On.out) (nxt (nxt B27.out B28.out) B29.out)) (by omega) (by omega)) HN3.out HyU.out Hok3.out).mono ?_
  rintro e w31 ⟨vUS, rfl, oUS, b31⟩
  have B30 := hide b31
  clear b31
  obtain ⟨AUS, cUS, rfl⟩ := own_shape oUS
  have OUS := hide oUS
  clear oUS
  obtain ⟨w32, hW32, atbUS, b32, z32⟩ := boxC w31 (.int .i64 N3) (.slice AUS yU.length cUS) 42
  have TbUS := hide atbUS
  clear atbUS z32
  have B31 := hide b32
  clear b32
  obtain ⟨p15_0, p15_1⟩ : AtC w32 w27.heap.size (.int .i64 n3) (.slice Am xs3.length cm) := (AtC.to Tbm.out (nxt (nxt (nxt B28.out B29.out) B30.out) B31.out))
  obtain ⟨p16_0, p16_1⟩ : AtC w32 (w27.heap.size + 1) (.int .i64 n4) (.slice An xs4.length cn) := (AtC.to Tbn.out (nxt (nxt (nxt B28.out B29.out) B30.out) B31.out))
  go_wp2_with fail
  clear p15_0 p15_1 p16_0 p16_1 hW32
  refine (asCB (meetOfI n3 _ xs3 n4 _ xs4 w32 (now_ (own_reads Om.out) (nxt (nxt (nxt (nxt B27.out B28.out) B29.out) B30.out) B31.out)) (now_ (own_reads On.out) (nxt (nxt (nxt (nxt B27.out B28.out) B29.out) B30.out) B31.out)) (by omega) (by omega)) HN3.out HyM.out Hok3.out).mono ?_
  rintro e w33 ⟨vMI, rfl, oMI, b33⟩
  have B32 := hide b33
  clear b33
  obtain ⟨AMI, cMI, rfl⟩ := own_shape oMI
  have OMI := hide oMI
  clear oMI
  obtain ⟨w34, hW34, atbMI, b34, z34⟩ := boxC w33 (.int .i64 N3) (.slice AMI yM.length cMI) 42
  have TbMI := hide atbMI
  clear atbMI z34
  have B33 := hide b34
  clear b34
  obtain ⟨p17_0, p17_1⟩ : AtC w34 w27.heap.size (.int .i64 n3) (.slice Am xs3.length cm) := (AtC.to Tbm.out (nxt (nxt (nxt (nxt (nxt B28.out B29.out) B30.out) B31.out) B32.out) B33.out))
  obtain ⟨p18_0, p18_1⟩ : AtC w34 (w27.heap.size + 1) (.int .i64 n4) (.slice An xs4.length cn) := (AtC.to Tbn.out (nxt (nxt (nxt (nxt (nxt B28.out B29.out) B30.out) B31.out) B32.out) B33.out))
  go_wp2_with fail
  clear p17_0 p17_1 p18_0 p18_1 hW34
  refine (asCB (meetOfS n3 _ xs3 n4 _ xs4 w34 (now_ (own_reads Om.out) (nxt (nxt (nxt (nxt (nxt (nxt B27.out B28.out) B29.out) B30.out) B31.out) B32.out) B33.out)) (now_ (own_reads On.out) (nxt (nxt (nxt (nxt (nxt (nxt B27.out B28.out) B29.out) B30.out) B31.out) B32.out) B33.out)) (by omega) (by omega)) HN3.out HyM.out Hok3.out).mono ?_
  rintro e w35 ⟨vMS, rfl, oMS, b35⟩
  have B34 := hide b35
  clear b35
  obtain ⟨AMS, cMS, rfl⟩ := own_shape oMS
  have OMS := hide oMS
  clear oMS
  obtain ⟨w36, hW36, atbMS, b36, z36⟩ := boxC w35 (.int .i64 N3) (.slice AMS yM.length cMS) 42
  have TbMS := hide atbMS
  clear atbMS z36
  have B35 := hide b36
  clear b36
  have hne0 : (ok0 != ok0) = false := by simp
  have hne1 : (ok1 != ok1) = false := by simp
  have hne2 : (ok2 != ok2) = false := by simp
  have hne3 : (ok3 != ok3) = false := by simp
  obtain ⟨p19_0, p19_1⟩ : AtC w36 w3.heap.size (.int .i64 N0) (.slice AAI yA.length cAI) := (AtC.to TbAI.out (nxt (nxt (nxt (nxt (nxt (nxt (nxt (nxt (nxt (nxt (nxt (nxt (nxt (nxt (nxt (nxt (nxt (nxt (nxt (nxt (nxt (nxt (nxt (nxt (nxt (nxt (nxt (nxt (nxt (nxt (nxt B4.out B5.out) B6.out) B7.out) B8.out) B9.out) B10.out) B11.out) B12.out) B13.out) B14.out) B15.out) B16.out) B17.out) B18.out) B19.out) B20.out) B21.out) B22.out) B23.out) B24.out) B25.out) B26.out) B27.out) B28.out) B29.out) B30.out) B31.out) B32.out) B33.out) B34.out) B35.out))
  obtain ⟨p20_0, p20_1⟩ : AtC w36 w5.heap.size (.int .i64 N0) (.slice AAS yA.length cAS) := (AtC.to TbAS.out (nxt (nxt (nxt (nxt (nxt (nxt (nxt (nxt (nxt (nxt (nxt (nxt (nxt (nxt (nxt (nxt (nxt (nxt (nxt (nxt (nxt (nxt (nxt (nxt (nxt (nxt (nxt (nxt (nxt B6.out B7.out) B8.out) B9.out) B10.out) B11.out) B12.out) B13.out) B14.out) B15.out) B16.out) B17.out) B18.out) B19.out) B20.out) B21.out) B22.out) B23.out) B24.out) B25.out) B26.out) B27.out) B28.out) B29.out) B30.out) B31.out) B32.out) B33.out) B34.out) B35.out))
  go_wp2_with fail
  clear p19_0 p19_1 p20_0 p20_1 hW36
  refine (sameComplex_same N0 _ _ yA w36 (now_ (own_reads OAI.out) (nxt (nxt (nxt (nxt (nxt (nxt (nxt (nxt (nxt (nxt (nxt (nxt (nxt (nxt (nxt (nxt (nxt (nxt (nxt (nxt (nxt (nxt (nxt (nxt (nxt (nxt (nxt (nxt (nxt (nxt (nxt (nxt B3.out B4.out) B5.out) B6.out) B7.out) B8.out) B9.out) B10.out) B11.out) B12.out) B13.out) B14.out) B15.out) B16.out) B17.out) B18.out) B19.out) B20.out) B21.out) B22.out) B23.out) B24.out) B25.out) B26.out) B27.out) B28.out) B29.out) B30.out) B31.out) B32.out) B33.out) B34.out) B35.out)) (now_ (own_reads OAS.out) (nxt (nxt (nxt (nxt (nxt (nxt (nxt (nxt (nxt (nxt (nxt (nxt (nxt (nxt (nxt (nxt (nxt (nxt (nxt (nxt (nxt (nxt (nxt (nxt (nxt (nxt (nxt (nxt (nxt (nxt B5.out B6.out) B7.out) B8.out) B9.out) B10.out) B11.out) B12.out) B13.out) B14.out) B15.out) B16.out) B17.out) B18.out) B19.out) B20.out) B21.out) B22.out) B23.out) B24.out) B25.out) B26.out) B27.out) B28.out) B29.out) B30.out) B31.out) B32.out) B33.out) B34.out) B35.out)) (by omega)).mono ?_
  rintro e w37 ⟨rfl, b37⟩
  have B36 := hide b37
  clear b37
  obtain ⟨p21_0, p21_1⟩ : AtC w37 w7.heap.size (.int .i64 N0) (.slice ASI yS.length cSI) := (AtC.to TbSI.out (nxt (nxt (nxt (nxt (nxt (nxt (nxt (nxt (nxt (nxt (nxt (nxt (nxt (nxt (nxt (nxt (nxt (nxt (nxt (nxt (nxt (nxt (nxt (nxt (nxt (nxt (nxt (nxt B8.out B9.out) B10.out) B11.out) B12.out) B13.out) B14.out) B15.out) B16.out) B17.out) B18.out) B19.out) B20.out) B21.out) B22.out) B23.out) B24.out) B25.out) B26.out) B27.out) B28.out) B29.out) B30.out) B31.out) B32.out) B33.out) B34.out) B35.out) B36.out))
  obtain ⟨p22_0, p22_1⟩ : AtC w37 w9.heap.size (.int .i64 N0) (.slice ASS yS.length cSS) := (AtC.to TbSS.out (nxt (nxt (nxt (nxt (nxt (nxt (nxt (nxt (nxt (nxt (nxt (nxt (nxt (nxt (nxt (nxt (nxt (nxt (nxt (nxt (nxt (nxt (nxt (nxt (nxt (nxt B10.out B11.out) B12.out) B13.out) B14.out) B15.out) B16.out) B17.out) B18.out) B19.out) B20.out) B21.out) B22.out) B23.out) B24.out) B25.out) B26.out) B27.out) B28.out) B29.out) B30.out) B31.out) B32.out) B33.out) B34.out) B35.out) B36.out))
  go_wp2_with fail
  clear p21_0 p21_1 p22_0 p22_1
  refine (sameComplex_same N0 _ _ yS w37 (now_ (own_reads OSI.out) (nxt (nxt (nxt (nxt (nxt (nxt (nxt (nxt (nxt (nxt (nxt (nxt (nxt (nxt (nxt (nxt (nxt (nxt (nxt (nxt (nxt (nxt (nxt (nxt (nxt (nxt (nxt (nxt (nxt B7.out B8.out) B9.out) B10.out) B11.out) B12.out) B13.out) B14.out) B15.out) B16.out) B17.out) B18.out) B19.out) B20.out) B21.out) B22.out) B23.out) B24.out) B25.out) B26.out) B27.out) B28.out) B29.out) B30.out) B31.out) B32.out) B33.out) B34.out) B35.out) B36.out)) (now_ (own_reads OSS.out) (nxt (nxt (nxt (nxt (nxt (nxt (nxt (nxt (nxt (nxt (nxt (nxt (nxt (nxt (nxt (nxt (nxt (nxt (nxt (nxt (nxt (nxt (nxt (nxt (nxt (nxt (nxt B9.out B10.out) B11.out) B12.out) B13.out) B14.out) B15.out) B16.out) B17.out) B18.out) B19.out) B20.out) B21.out) B22.out) B23.out) B24.out) B25.out) B26.out) B27.out) B28.out) B29.out) B30.out) B31.out) B32.out) B33.out) B34.out) B35.out) B36.out)) (by omega)).mono ?_
  rintro e w38 ⟨rfl, b38⟩
  have B37 := hide b38
  clear b38
  obtain ⟨p23_0, p23_1⟩ : AtC w38 w11.heap.size (.int .i64 N0) (.slice ADI yD.length cDI) := (AtC.to TbDI.out (nxt (nxt (nxt (nxt (nxt (nxt (nxt (nxt (nxt (nxt (nxt (nxt (nxt (nxt (nxt (nxt (nxt (nxt (nxt (nxt (nxt (nxt (nxt (nxt (nxt B12.out B13.out) B14.out) B15.out) B16.out) B17.out) B18.out) B19.out) B20.out) B21.out) B22.out) B23.out) B24.out) B25.out) B26.out) B27.out) B28.out) B29.out) B30.out) B31.out) B32.out) B33.out) B34.out) B35.out) B36.out) B37.out))
  obtain ⟨p24_0, p24_1⟩ : AtC w38 w13.heap.size (.int .i64 N0) (.slice ADS yD.length cDS) := (AtC.to TbDS.out (nxt (nxt (nxt (nxt (nxt (nxt (nxt (nxt (nxt (nxt (nxt (nxt (nxt (nxt (nxt (nxt (nxt (nxt (nxt (nxt (nxt (nxt (nxt B14.out B15.out) B16.out) B17.out) B18.out) B19.out) B20.out) B21.out) B22.out) B23.out) B24.out) B25.out) B26.out) B27.out) B28.out) B29.out) B30.out) B31.out) B32.out) B33.out) B34.out) B35.out) B36.out) B37.out))
  go_wp2_with fail
  clear p23_0 p23_1 p24_0 p24_1
  refine (sameComplex_same N0 _ _ yD w38 (now_ (own_reads ODI.out) (nxt (nxt (nxt (nxt (nxt (nxt (nxt (nxt (nxt (nxt (nxt (nxt (nxt (nxt (nxt (nxt (nxt (nxt (nxt (nxt (nxt (nxt (nxt (nxt (nxt (nxt B11.out B12.out) B13.out) B14.out) B15.out) B16.out) B17.out) B18.out) B19.out) B20.out) B21.out) B22.out) B23.out) B24.out) B25.out) B26.out) B27.out) B28.out) B29.out) B30.out) B31.out) B32.out) B33.out) B34.out) B35.out) B36.out) B37.out)) (now_ (own_reads ODS.out) (nxt (nxt (nxt (nxt (nxt (nxt (nxt (nxt (nxt (nxt (nxt (nxt (nxt (nxt (nxt (nxt (nxt (nxt (nxt (nxt (nxt (nxt (nxt (nxt B13.out B14.out) B15.out) B16.out) B17.out) B18.out) B19.out) B20.out) B21.out) B22.out) B23.out) B24.out) B25.out) B26.out) B27.out) B28.out) B29.out) B30.out) B31.out) B32.out) B33.out) B34.out) B35.out) B36.out) B37.out)) (by omega)).mono ?_
  rintro e w39 ⟨rfl, b39⟩
  have B38 := hide b39
  clear b39
  obtain ⟨p25_0, p25_1⟩ : AtC w39 w17.heap.size (.int .i64 N1) (.slice AKI yK.length cKI) := (AtC.to TbKI.out (nxt (nxt (nxt (nxt (nxt (nxt (nxt (nxt (nxt (nxt (nxt (nxt (nxt (nxt (nxt (nxt (nxt (nxt (nxt (nxt B18.out B19.out) B20.out) B21.out) B22.out) B23.out) B24.out) B25.out) B26.out) B27.out) B28.out) B29.out) B30.out) B31.out) B32.out) B33.out) B34.out) B35.out) B36.out) B37.out) B38.out))
  obtain ⟨p26_0, p26_1⟩ : AtC w39 w19.heap.size (.int .i64 N1) (.slice AKS yK.length cKS) := (AtC.to TbKS.out (nxt (nxt (nxt (nxt (nxt (nxt (nxt (nxt (nxt (nxt (nxt (nxt (nxt (nxt (nxt (nxt (nxt (nxt B20.out B21.out) B22.out) B23.out) B24.out) B25.out) B26.out) B27.out) B28.out) B29.out) B30.out) B31.out) B32.out) B33.out) B34.out) B35.out) B36.out) B37.out) B38.out))
  go_wp2_with fail
  clear p25_0 p25_1 p26_0 p26_1
  refine (sameComplex_same N1 _ _ yK w39 (now_ (own_reads OKI.out) (nxt (nxt (nxt (nxt (nxt (nxt (nxt (nxt (nxt (nxt (nxt (nxt (nxt (nxt (nxt (nxt (nxt (nxt (nxt (nxt (nxt B17.out B18.out) B19.out) B20.out) B21.out) B22.out) B23.out) B24.out) B25.out) B26.out) B27.out) B28.out) B29.out) B30.out) B31.out) B32.out) B33.out) B34.out) B35.out) B36.out) B37.out) B38.out)) (now_ (own_reads OKS.out) (nxt (nxt (nxt (nxt (nxt (nxt (nxt (nxt (nxt (nxt (nxt (nxt (nxt (nxt (nxt (nxt (nxt (nxt (nxt B19.out B20.out) B21.out) B22.out) B23.out) B24.out) B25.out) B26.out) B27.out) B28.out) B29.out) B30.out) B31.out) B32.out) B33.out) B34.out) B35.out) B36.out) B37.out) B38.out)) (by omega)).mono ?_
  rintro e w40 ⟨rfl, b40⟩
  have B39 := hide b40
  clear b40
  obtain ⟨p27_0, p27_1⟩ : AtC w40 w23.heap.size (.int .i64 N2) (.slice AJI yI.length cJI) := (AtC.to TbJI.out (nxt (nxt (nxt (nxt (nxt (nxt (nxt (nxt (nxt (nxt (nxt (nxt (nxt (nxt (nxt B24.out B25.out) B26.out) B27.out) B28.out) B29.out) B30.out) B31.out) B32.out) B33.out) B34.out) B35.out) B36.out) B37.out) B38.out) B39.out))
  obtain ⟨p28_0, p28_1⟩ : AtC w40 w25.heap.size (.int .i64 N2) (.slice AJS yI.length cJS) := (AtC.to TbJS.out (nxt (nxt (nxt (nxt (nxt (nxt (nxt (nxt (nxt (nxt (nxt (nxt (nxt B26.out B27.out) B28.out) B29.out) B30.out) B31.out) B32.out) B33.out) B34.out) B35.out) B36.out) B37.out) B38.out) B39.out))
  go_wp2_with fail
  clear p27_0 p27_1 p28_0 p28_1
  refine (sameComplex_same N2 _ _ yI w40 (now_ (own_reads OJI.out) (nxt (nxt (nxt (nxt (nxt (nxt (nxt (nxt (nxt (nxt (nxt (nxt (nxt (nxt (nxt (nxt B23.out B24.out) B25.out) B26.out) B27.out) B28.out) B29.out) B30.out) B31.out) B32.out) B33.out) B34.out) B35.out) B36.out) B37.out) B38.out) B39.out)) (now_ (own_reads OJS.out) (nxt (nxt (nxt (nxt (nxt (nxt (nxt (nxt (nxt (nxt (nxt (nxt (nxt (nxt B25.out B26.out) B27.out) B28.out) B29.out) B30.out) B31.out) B32.out) B33.out) B34.out) B35.out) B36.out) B37.out) B38.out) B39.out)) (by omega)).mono ?_
  rintro e w41 ⟨rfl, b41⟩
  have B40 := hide b41
  clear b41
  obtain ⟨p29_0, p29_1⟩ : AtC w41 w29.heap.size (.int .i64 N3) (.slice AUI yU.length cUI) := (AtC.to TbUI.out (nxt (nxt (nxt (nxt (nxt (nxt (nxt (nxt (nxt (nxt B30.out B31.out) B32.out) B33.out) B34.out) B35.out) B36.out) B37.out) B38.out) B39.out) B40.out))
  obtain ⟨p30_0, p30_1⟩ : AtC w41 w31.heap.size (.int .i64 N3) (.slice AUS yU.length cUS) := (AtC.to TbUS.out (nxt (nxt (nxt (nxt (nxt (nxt (nxt (nxt B32.out B33.out) B34.out) B35.out) B36.out) B37.out) B38.out) B39.out) B40.out))
  go_wp2_with fail
  clear p29_0 p29_1 p30_0 p30_1
  refine (sameComplex_same N3 _ _ yU w41 (now_ (own_reads OUI.out) (nxt (nxt (nxt (nxt (nxt (nxt (nxt (nxt (nxt (nxt (nxt B29.out B30.out) B31.out) B32.out) B33.out) B34.out) B35.out) B36.out) B37.out) B38.out) B39.out) B40.out)) (now_ (own_reads OUS.out) (nxt (nxt (nxt (nxt (nxt (nxt (nxt (nxt (nxt B31.out B32.out) B33.out) B34.out) B35.out) B36.out) B37.out) B38.out) B39.out) B40.out)) (by omega)).mono ?_
  rintro e w42 ⟨rfl, b42⟩
  have B41 := hide b42
  clear b42
  obtain ⟨p31_0, p31_1⟩ : AtC w42 w33.heap.size (.int .i64 N3) (.slice AMI yM.length cMI) := (AtC.to TbMI.out (nxt (nxt (nxt (nxt (nxt (nxt (nxt B34.out B35.out) B36.out) B37.out) B38.out) B39.out) B40.out) B41.out))
  obtain ⟨p32_0, p32_1⟩ : AtC w42 w35.heap.size (.int .i64 N3) (.slice AMS yM.length cMS) := (AtC.to TbMS.out (nxt (nxt (nxt (nxt (nxt B36.out B37.out) B38.out) B39.out) B40.out) B41.out))
  go_wp2_with fail
  clear p31_0 p31_1 p32_0 p32_1
  refine (sameComplex_same N3 _ _ yM w42 (now_ (own_reads OMI.out) (nxt (nxt (nxt (nxt (nxt (nxt (nxt (nxt B33.out B34.out) B35.out) B36.out) B37.out) B38.out) B39.out) B40.out) B41.out)) (now_ (own_reads OMS.out) (nxt (nxt (nxt (nxt (nxt (nxt B35.out B36.out) B37.out) B38.out) B39.out) B40.out) B41.out)) (by omega)).mono ?_
  rintro e w43 ⟨rfl, b43⟩
  have B42 := hide b43
  clear b43
  clear hne0 hne1 hne2 hne3
  go_upto_region 23 with fail
  go_cut [244] (fun s244 wx => s244 = .bool false ∧ Hid (Below w43.heap.size w43 wx))
  case first =>
    have qbUI := hide (AtC.to TbUI.out (nxt (nxt (nxt (nxt (nxt (nxt (nxt (nxt (nxt (nxt (nxt (nxt B30.out B31.out) B32.out) B33.out) B34.out) B35.out) B36.out) B37.out) B38.out) B39.out) B40.out) B41.out) B42.out))
    have qbMI := hide (AtC.to TbMI.out (nxt (nxt (nxt (nxt (nxt (nxt (nxt (nxt B34.out B35.out) B36.out) B37.out) B38.out) B39.out) B40.out) B41.out) B42.out))
    have qbm := hide (AtC.to Tbm.out (nxt (nxt (nxt (nxt (nxt (nxt (nxt (nxt (nxt (nxt (nxt (nxt (nxt (nxt B28.out B29.out) B30.out) B31.out) B32.out) B33.out) B34.out) B35.out) B36.out) B37.out) B38.out) B39.out) B40.out) B41.out) B42.out))
    have qbn := hide (AtC.to Tbn.out (nxt (nxt (nxt (nxt (nxt (nxt (nxt (nxt (nxt (nxt (nxt (nxt (nxt (nxt B28.out B29.out) B30.out) B31.out) B32.out) B33.out) B34.out) B35.out) B36.out) B37.out) B38.out) B39.out) B40.out) B41.out) B42.out))
    have rUI := hide (now_ (own_reads OUI.out) (nxt (nxt (nxt (nxt (nxt (nxt (nxt (nxt (nxt (nxt (nxt (nxt (nxt B29.out B30.out) B31.out) B32.out) B33.out) B34.out) B35.out) B36.out) B37.out) B38.out) B39.out) B40.out) B41.out) B42.out))
    have rMI := hide (now_ (own_reads OMI.out) (nxt (nxt (nxt (nxt (nxt (nxt (nxt (nxt (nxt B33.out B34.out) B35.out) B36.out) B37.out) B38.out) B39.out) B40.out) B41.out) B42.out))
    have rm := hide (now_ (own_reads Om.out) (nxt (nxt (nxt (nxt (nxt (nxt (nxt (nxt (nxt (nxt (nxt (nxt (nxt (nxt (nxt B27.out B28.out) B29.out) B30.out) B31.out) B32.out) B33.out) B34.out) B35.out) B36.out) B37.out) B38.out) B39.out) B40.out) B41.out) B42.out))
    have rn := hide (now_ (own_reads On.out) (nxt (nxt (nxt (nxt (nxt (nxt (nxt (nxt (nxt (nxt (nxt (nxt (nxt (nxt (nxt B27.out B28.out) B29.out) B30.out) B31.out) B32.out) B33.out) B34.out) B35.out) B36.out) B37.out) B38.out) B39.out) B40.out) B41.out) B42.out))
    have hS : Hid (∀ X : World, Below w43.heap.size w43 X → ((X.cell? ⟨w29.heap.size, 0, none⟩ = some (.int .i64 N3) ∧ X.cell? ⟨w29.heap.size, 1, none⟩ = some (.slice AUI yU.length cUI)) ∧ (X.cell? ⟨w33.heap.size, 0, none⟩ = some (.int .i64 N3) ∧ X.cell? ⟨w33.heap.size, 1, none⟩ = some (.slice AMI yM.length cMI)) ∧ (X.cell? ⟨w27.heap.size, 0, none⟩ = some (.int .i64 n3) ∧ X.cell? ⟨w27.heap.size, 1, none⟩ = some (.slice Am xs3.length cm)) ∧ (X.cell? ⟨(w27.heap.size + 1), 0, none⟩ = some (.int .i64 n4) ∧ X.cell? ⟨(w27.heap.size + 1), 1, none⟩ = some (.slice An xs4.length cn)) ∧ Hid (Below w43.heap.size w43 X))) := fun X h => ⟨AtC.to qbUI.out h, AtC.to qbMI.out h, AtC.to qbm.out h, AtC.to qbn.out h, h⟩
    have hb0 : Below w43.heap.size w43 w43.drew := (Below.refl _ _).drew
    cases ok3
    · go_wp2_with fail
      go_region
      all_goals (
        go_wp2_with fail
        go_meet
        exact ⟨rfl, hb0⟩)
    · skip
      obtain ⟨fo, hfo⟩ : ∃ y, y = zs (facesOf N3 yU) := ⟨_, rfl⟩
      have Hfo := hide hfo
      clear hfo
      have lfo : fo.length ≤ 448 := by rw [Hfo.out, zs_len20]; exact facesOf_len _ _
      obtain ⟨fu, hfu⟩ : ∃ y, y = zs (facesOf N3 yM) := ⟨_, rfl⟩
      have Hfu := hide hfu
      clear hfu
      have lfu : fu.length ≤ 448 := by rw [Hfu.out, zs_len20]; exact facesOf_len _ _
      obtain ⟨fm, hfm⟩ : ∃ y, y = zs (facesOf n3 xs3) := ⟨_, rfl⟩
      have Hfm := hide hfm
      clear hfm
      have lfm : fm.length ≤ 448 := by rw [Hfm.out, zs_len20]; exact facesOf_len _ _
      obtain ⟨fn, hfn⟩ : ∃ y, y = zs (facesOf n4 xs4) := ⟨_, rfl⟩
      have Hfn := hide hfn
      clear hfn
      have lfn : fn.length ≤ 448 := by rw [Hfn.out, zs_len20]; exact facesOf_len _ _
      have hsum : fo.length + fu.length = fm.length + fn.length := by
        have h3 := two_faces Hok3.out.symm
        rw [← HN3.out, ← HyU.out, ← HyM.out] at h3
        rw [Hfo.out, Hfu.out, Hfm.out, Hfn.out, zs_len20, zs_len20, zs_len20, zs_len20]
        exact h3
      have hs1 : ((fo.length : Int) + (fu.length : Int) != (fm.length : Int) + (fn.length : Int)) = false := by rw [bne_eq_false_iff_eq]; omega
      have hs2 : IntKind.i64.wrap ((fo.length : Int) + (fu.length : Int)) = (fo.length : Int) + (fu.length : Int) := IntWalk.i64_in _ (by omega)
      have hs3 : IntKind.i64.wrap ((fm.length : Int) + (fn.length : Int)) = (fm.length : Int) + (fn.length : Int) := IntWalk.i64_in _ (by omega)
      clear hsum
      go_wp2_with fail
      go_region_held3 (fun X => ((X.cell? ⟨w29.heap.size, 0, none⟩ = some (.int .i64 N3) ∧ X.cell? ⟨w29.heap.size, 1, none⟩ = some (.slice AUI yU.length cUI)) ∧ (X.cell? ⟨w33.heap.size, 0, none⟩ = some (.int .i64 N3) ∧ X.cell? ⟨w33.heap.size, 1, none⟩ = some (.slice AMI yM.length cMI)) ∧ (X.cell? ⟨w27.heap.size, 0, none⟩ = some (.int .i64 n3) ∧ X.cell? ⟨w27.heap.size, 1, none⟩ = some (.slice Am xs3.length cm)) ∧ (X.cell? ⟨(w27.heap.size + 1), 0, none⟩ = some (.int .i64 n4) ∧ X.cell? ⟨(w27.heap.size + 1), 1, none⟩ = some (.slice An xs4.length cn)) ∧ Hid (Below w43.heap.size w43 X))) (first | with_reducible exact hS.out _ (by assumption) | go_keep) ((go_at_call 55; rename_i hSx _ _; (first | (go_fit (asI (facesOfS N3 _ yU _ (now_ rUI.out hSx.2.2.2.2) (by omega)) Hfo.out); rintro e wq ⟨vq1, rfl, oq1, bq⟩; obtain ⟨Aq1, cq1, rfl⟩ := own_shape oq1; have hb0 := nxt hSx.2.2.2.2 bq) | (go_fit (asI (facesOfS N3 _ yM _ (now_ rMI.out hSx.2.2.2.2) (by omega)) Hfu.out); rintro e wq ⟨vq2, rfl, oq2, bq⟩; obtain ⟨Aq2, cq2, rfl⟩ := own_shape oq2; have hb0 := nxt hSx.2.2.2.2 bq) | (go_fit (asI (facesOfS n3 _ xs3 _ (now_ rm.out hSx.2.2.2.2) (by omega)) Hfm.out); rintro e wq ⟨vq3, rfl, oq3, bq⟩; obtain ⟨Aq3, cq3, rfl⟩ := own_shape oq3; have hb0 := nxt hSx.2.2.2.2 bq) | (go_fit (asI (facesOfS n4 _ xs4 _ (now_ rn.out hSx.2.2.2.2) (by omega)) Hfn.out); rintro e wq ⟨vq4, rfl, oq4, bq⟩; obtain ⟨Aq4, cq4, rfl⟩ := own_shape oq4; have hb0 := nxt hSx.2.2.2.2 bq))))
      all_goals (
        go_wp2_with fail
        go_meet
        exact ⟨rfl, hb0⟩)
  case rest =>
    obtain ⟨rfl, hC⟩ := hcut
    generalize hwc : wc = w44 at hC ⊢
    clear hwc
    have b44 := hC.out
    clear hC
    have B43 := hide b44
    clear b44
    cases ok0
    · go_wp2
      go_ret
      exact ⟨rfl, (nxt (nxt (nxt (nxt (nxt (nxt (nxt (nxt (nxt (nxt (nxt (nxt (nxt (nxt (nxt (nxt (nxt (nxt (nxt (nxt (nxt (nxt (nxt (nxt (nxt (nxt (nxt (nxt (nxt (nxt (nxt (nxt (nxt (nxt (nxt (nxt (nxt (nxt (nxt (nxt (nxt (nxt (nxt B0.out B1.out) B2.out) B3.out) B4.out) B5.out) B6.out) B7.out) B8.out) B9.out) B10.out) B11.out) B12.out) B13.out) B14.out) B15.out) B16.out) B17.out) B18.out) B19.out) B20.out) B21.out) B22.out) B23.out) B24.out) B25.out) B26.out) B27.out) B28.out) B29.out) B30.out) B31.out) B32.out) B33.out) B34.out) B35.out) B36.out) B37.out) B38.out) B39.out) B40.out) B41.out) B42.out) B43.out)⟩
    have Hok := hide Hok0.out.symm
    have HN : Hid (N0 = n0) := by show _ = _; rw [HN0.out, Hok.out]; rfl
    have Hsm : Hid (sameOk N0 N0 yS yD = true) := by show _ = _; rw [HN0.out, HyS.out, HyD.out]; exact parts_same Hok.out
    have Hbk : Hid (cbXs (sameOk N0 N0 yS yD) (maxOf (fun u => faceP yS u || faceP yD u)) = xs0) := by
      show _ = _
      have h := parts_back Hok.out
      rw [← HyS.out, ← HyD.out] at h
      rw [Hsm.out, h.1]
      exact h.2
    obtain ⟨yB, hyB⟩ : ∃ y, y = zs (maxOf (fun u => faceP yS u && faceP yD u)) := ⟨_, rfl⟩
    have HyB := hide hyB
    clear hyB
    have lB : yB.length ≤ 64 := by rw [HyB.out, zs_len20]; exact maxOf_64 _
    have Hmt : Hid (cbXs (sameOk N0 N0 yS yD) (maxOf (fun u => faceP yS u && faceP yD u)) = yB) := by show _ = _; rw [Hsm.out, HyB.out]; rfl
    have Hcn : Hid (cbN (sameOk N0 N0 yS yD) N0 = n0) := by show _ = _; rw [Hsm.out, ← HN.out]; rfl
    obtain ⟨p33_0, p33_1⟩ : AtC w44 w7.heap.size (.int .i64 N0) (.slice ASI yS.length cSI) := (AtC.to TbSI.out (nxt (nxt (nxt (nxt (nxt (nxt (nxt (nxt (nxt (nxt (nxt (nxt (nxt (nxt (nxt (nxt (nxt (nxt (nxt (nxt (nxt (nxt (nxt (nxt (nxt (nxt (nxt (nxt (nxt (nxt (nxt (nxt (nxt (nxt (nxt B8.out B9.out) B10.out) B11.out) B12.out) B13.out) B14.out) B15.out) B16.out) B17.out) B18.out) B19.out) B20.out) B21.out) B22.out) B23.out) B24.out) B25.out) B26.out) B27.out) B28.out) B29.out) B30.out) B31.out) B32.out) B33.out) B34.out) B35.out) B36.out) B37.out) B38.out) B39.out) B40.out) B41.out) B42.out) B43.out))
    obtain ⟨p34_0, p34_1⟩ : AtC w44 w11.heap.size (.int .i64 N0) (.slice ADI yD.length cDI) := (AtC.to TbDI.out (nxt (nxt (nxt (nxt (nxt (nxt (nxt (nxt (nxt (nxt (nxt (nxt (nxt (nxt (nxt (nxt (nxt (nxt (nxt (nxt (nxt (nxt (nxt (nxt (nxt (nxt (nxt (nxt (nxt (nxt (nxt B12.out B13.out) B14.out) B15.out) B16.out) B17.out) B18.out) B19.out) B20.out) B21.out) B22.out) B23.out) B24.out) B25.out) B26.out) B27.out) B28.out) B29.out) B30.out) B31.out) B32.out) B33.out) B34.out) B35.out) B36.out) B37.out) B38.out) B39.out) B40.out) B41.out) B42.out) B43.out))
    go_wp2_with fail
    clear p33_0 p33_1 p34_0 p34_1
    refine (asCB2 (unionOfI N0 _ yS N0 _ yD w44 (now_ (own_reads OSI.out) (nxt (nxt (nxt (nxt (nxt (nxt (nxt (nxt (nxt (nxt (nxt (nxt (nxt (nxt (nxt (nxt (nxt (nxt (nxt (nxt (nxt (nxt (nxt (nxt (nxt (nxt (nxt (nxt (nxt (nxt (nxt (nxt (nxt (nxt (nxt (nxt B7.out B8.out) B9.out) B10.out) B11.out) B12.out) B13.out) B14.out) B15.out) B16.out) B17.out) B18.out) B19.out) B20.out) B21.out) B22.out) B23.out) B24.out) B25.out) B26.out) B27.out) B28.out) B29.out) B30.out) B31.out) B32.out) B33.out) B34.out) B35.out) B36.out) B37.out) B38.out) B39.out) B40.out) B41.out) B42.out) B43.out)) (now_ (own_reads ODI.out) (nxt (nxt (nxt (nxt (nxt (nxt (nxt (nxt (nxt (nxt (nxt (nxt (nxt (nxt (nxt (nxt (nxt (nxt (nxt (nxt (nxt (nxt (nxt (nxt (nxt (nxt (nxt (nxt (nxt (nxt (nxt (nxt B11.out B12.out) B13.out) B14.out) B15.out) B16.out) B17.out) B18.out) B19.out) B20.out) B21.out) B22.out) B23.out) B24.out) B25.out) B26.out) B27.out) B28.out) B29.out) B30.out) B31.out) B32.out) B33.out) B34.out) B35.out) B36.out) B37.out) B38.out) B39.out) B40.out) B41.out) B42.out) B43.out)) (by omega) (by omega)) Hcn.out Hbk.out Hsm.out).mono ?_
    rintro e w45 ⟨vB, rfl, oB, b45⟩
    have B44 := hide b45
    clear b45
    obtain ⟨AB, cB, rfl⟩ := own_shape oB
    have OB := hide oB
    clear oB
    obtain ⟨w46, hW46, atbB, b46, z46⟩ := boxC w45 (.int .i64 n0) (.slice AB xs0.length cB) 42
    have TbB := hide atbB
    clear atbB z46
    have B45 := hide b46
    clear b46
    obtain ⟨p35_0, p35_1⟩ : AtC w46 w7.heap.size (.int .i64 N0) (.slice ASI yS.length cSI) := (AtC.to TbSI.out (nxt (nxt (nxt (nxt (nxt (nxt (nxt (nxt (nxt (nxt (nxt (nxt (nxt (nxt (nxt (nxt (nxt (nxt (nxt (nxt (nxt (nxt (nxt (nxt (nxt (nxt (nxt (nxt (nxt (nxt (nxt (nxt (nxt (nxt (nxt (nxt (nxt B8.out B9.out) B10.out) B11.out) B12.out) B13.out) B14.out) B15.out) B16.out) B17.out) B18.out) B19.out) B20.out) B21.out) B22.out) B23.out) B24.out) B25.out) B26.out) B27.out) B28.out) B29.out) B30.out) B31.out) B32.out) B33.out) B34.out) B35.out) B36.out) B37.out) B38.out) B39.out) B40.out) B41.out) B42.out) B43.out) B44.out) B45.out))
    obtain ⟨p36_0, p36_1⟩ : AtC w46 w11.heap.size (.int .i64 N0) (.slice ADI yD.length cDI) := (AtC.to TbDI.out (nxt (nxt (nxt (nxt (nxt (nxt (nxt (nxt (nxt (nxt (nxt (nxt (nxt (nxt (nxt (nxt (nxt (nxt (nxt (nxt (nxt (nxt (nxt (nxt (nxt (nxt (nxt (nxt (nxt (nxt (nxt (nxt (nxt B12.out B13.out) B14.out) B15.out) B16.out) B17.out) B18.out) B19.out) B20.out) B21.out) B22.out) B23.out) B24.out) B25.out) B26.out) B27.out) B28.out) B29.out) B30.out) B31.out) B32.out) B33.out) B34.out) B35.out) B36.out) B37.out) B38.out) B39.out) B40.out) B41.out) B42.out) B43.out) B44.out) B45.out))
    go_wp2_with fail
    clear p35_0 p35_1 p36_0 p36_1 hW46
    refine (asCB2 (meetOfI N0 _ yS N0 _ yD w46 (now_ (own_reads OSI.out) (nxt (nxt (nxt (nxt (nxt (nxt (nxt (nxt (nxt (nxt (nxt (nxt (nxt (nxt (nxt (nxt (nxt (nxt (nxt (nxt (nxt (nxt (nxt (nxt (nxt (nxt (nxt (nxt (nxt (nxt (nxt (nxt (nxt (nxt (nxt (nxt (nxt (nxt B7.out B8.out) B9.out) B10.out) B11.out) B12.out) B13.out) B14.out) B15.out) B16.out) B17.out) B18.out) B19.out) B20.out) B21.out) B22.out) B23.out) B24.out) B25.out) B26.out) B27.out) B28.out) B29.out) B30.out) B31.out) B32.out) B33.out) B34.out) B35.out) B36.out) B37.out) B38.out) B39.out) B40.out) B41.out) B42.out) B43.out) B44.out) B45.out)) (now_ (own_reads ODI.out) (nxt (nxt (nxt (nxt (nxt (nxt (nxt (nxt (nxt (nxt (nxt (nxt (nxt (nxt (nxt (nxt (nxt (nxt (nxt (nxt (nxt (nxt (nxt (nxt (nxt (nxt (nxt (nxt (nxt (nxt (nxt (nxt (nxt (nxt B11.out B12.out) B13.out) B14.out) B15.out) B16.out) B17.out) B18.out) B19.out) B20.out) B21.out) B22.out) B23.out) B24.out) B25.out) B26.out) B27.out) B28.out) B29.out) B30.out) B31.out) B32.out) B33.out) B34.out) B35.out) B36.out) B37.out) B38.out) B39.out) B40.out) B41.out) B42.out) B43.out) B44.out) B45.out)) (by omega) (by omega)) Hcn.out Hmt.out Hsm.out).mono ?_
    rintro e w47 ⟨vE, rfl, oE, b47⟩
    have B46 := hide b47
    clear b47
    obtain ⟨AE, cE, rfl⟩ := own_shape oE
    have OE := hide oE
    clear oE
    obtain ⟨w48, hW48, atbE, b48, z48⟩ := boxC w47 (.int .i64 n0) (.slice AE yB.length cE) 42
    have TbE := hide atbE
    clear atbE z48
    have B47 := hide b48
    clear b48
    obtain ⟨p37_0, p37_1⟩ : AtC w48 w45.heap.size (.int .i64 n0) (.slice AB xs0.length cB) := (AtC.to TbB.out (nxt B46.out B47.out))
    obtain ⟨p38_0, p38_1⟩ : AtC w48 w1.heap.size (.int .i64 n0) (.slice Ax xs0.length cx) := (AtC.to Tbx.out (nxt (nxt (nxt (nxt (nxt (nxt (nxt (nxt (nxt (nxt (nxt (nxt (nxt (nxt (nxt (nxt (nxt (nxt (nxt (nxt (nxt (nxt (nxt (nxt (nxt (nxt (nxt (nxt (nxt (nxt (nxt (nxt (nxt (nxt (nxt (nxt (nxt (nxt (nxt (nxt (nxt (nxt (nxt (nxt (nxt B2.out B3.out) B4.out) B5.out) B6.out) B7.out) B8.out) B9.out) B10.out) B11.out) B12.out) B13.out) B14.out) B15.out) B16.out) B17.out) B18.out) B19.out) B20.out) B21.out) B22.out) B23.out) B24.out) B25.out) B26.out) B27.out) B28.out) B29.out) B30.out) B31.out) B32.out) B33.out) B34.out) B35.out) B36.out) B37.out) B38.out) B39.out) B40.out) B41.out) B42.out) B43.out) B44.out) B45.out) B46.out) B47.out))
    go_wp2_with fail
    clear p37_0 p37_1 p38_0 p38_1 hW48
    refine (sameComplex_same n0 _ _ xs0 w48 (now_ (own_reads OB.out) (nxt (nxt B45.out B46.out) B47.out)) (now_ (own_reads Ox.out) (nxt (nxt (nxt (nxt (nxt (nxt (nxt (nxt (nxt (nxt (nxt (nxt (nxt (nxt (nxt (nxt (nxt (nxt (nxt (nxt (nxt (nxt (nxt (nxt (nxt (nxt (nxt (nxt (nxt (nxt (nxt (nxt (nxt (nxt (nxt (nxt (nxt (nxt (nxt (nxt (nxt (nxt (nxt (nxt (nxt (nxt B1.out B2.out) B3.out) B4.out) B5.out) B6.out) B7.out) B8.out) B9.out) B10.out) B11.out) B12.out) B13.out) B14.out) B15.out) B16.out) B17.out) B18.out) B19.out) B20.out) B21.out) B22.out) B23.out) B24.out) B25.out) B26.out) B27.out) B28.out) B29.out) B30.out) B31.out) B32.out) B33.out) B34.out) B35.out) B36.out) B37.out) B38.out) B39.out) B40.out) B41.out) B42.out) B43.out) B44.out) B45.out) B46.out) B47.out)) (by omega)).mono ?_
    rintro e w49 ⟨rfl, b49⟩
    have B48 := hide b49
    clear b49
    by_cases h1 : sizeOf t0 = 1
    · have hE : Hid (yB = yA) := by
        have h := parts_meet Hok.out h1
        rw [← HyS.out, ← HyD.out] at h
        show _ = _
        rw [HyB.out, h, HyA.out, Hok.out]
        rfl
      have hn1 : (sizeOf t0 != 1) = false := by rw [bne_eq_false_iff_eq]; exact h1
      clear h1
      go_wp2_with fail
      refine (sizeOfS _ _).mono ?_
      rintro e w' ⟨rfl, rfl⟩
      obtain ⟨p39_0, p39_1⟩ : AtC w49 w47.heap.size (.int .i64 n0) (.slice AE yB.length cE) := (AtC.to TbE.out B48.out)
      obtain ⟨p40_0, p40_1⟩ : AtC w49 w3.heap.size (.int .i64 N0) (.slice AAI yA.length cAI) := (AtC.to TbAI.out (nxt (nxt (nxt (nxt (nxt (nxt (nxt (nxt (nxt (nxt (nxt (nxt (nxt (nxt (nxt (nxt (nxt (nxt (nxt (nxt (nxt (nxt (nxt (nxt (nxt (nxt (nxt (nxt (nxt (nxt (nxt (nxt (nxt (nxt (nxt (nxt (nxt (nxt (nxt (nxt (nxt (nxt (nxt (nxt B4.out B5.out) B6.out) B7.out) B8.out) B9.out) B10.out) B11.out) B12.out) B13.out) B14.out) B15.out) B16.out) B17.out) B18.out) B19.out) B20.out) B21.out) B22.out) B23.out) B24.out) B25.out) B26.out) B27.out) B28.out) B29.out) B30.out) B31.out) B32.out) B33.out) B34.out) B35.out) B36.out) B37.out) B38.out) B39.out) B40.out) B41.out) B42.out) B43.out) B44.out) B45.out) B46.out) B47.out) B48.out))
      go_wp2_with fail
      clear p39_0 p39_1 p40_0 p40_1
      refine (sameComplex_is HN.out.symm hE.out _ _ w49 (now_ (own_reads OE.out) (nxt B47.out B48.out)) (now_ (own_reads OAI.out) (nxt (nxt (nxt (nxt (nxt (nxt (nxt (nxt (nxt (nxt (nxt (nxt (nxt (nxt (nxt (nxt (nxt (nxt (nxt (nxt (nxt (nxt (nxt (nxt (nxt (nxt (nxt (nxt (nxt (nxt (nxt (nxt (nxt (nxt (nxt (nxt (nxt (nxt (nxt (nxt (nxt (nxt (nxt (nxt (nxt B3.out B4.out) B5.out) B6.out) B7.out) B8.out) B9.out) B10.out) B11.out) B12.out) B13.out) B14.out) B15.out) B16.out) B17.out) B18.out) B19.out) B20.out) B21.out) B22.out) B23.out) B24.out) B25.out) B26.out) B27.out) B28.out) B29.out) B30.out) B31.out) B32.out) B33.out) B34.out) B35.out) B36.out) B37.out) B38.out) B39.out) B40.out) B41.out) B42.out) B43.out) B44.out) B45.out) B46.out) B47.out) B48.out)) (by omega)).mono ?_
      rintro e w50 ⟨rfl, b50⟩
      have B49 := hide b50
      clear b50
      go_wp2
      go_ret
      exact ⟨rfl, (nxt (nxt (nxt (nxt (nxt (nxt (nxt (nxt (nxt (nxt (nxt (nxt (nxt (nxt (nxt (nxt (nxt (nxt (nxt (nxt (nxt (nxt (nxt (nxt (nxt (nxt (nxt (nxt (nxt (nxt (nxt (nxt (nxt (nxt (nxt (nxt (nxt (nxt (nxt (nxt (nxt (nxt (nxt (nxt (nxt (nxt (nxt (nxt (nxt B0.out B1.out) B2.out) B3.out) B4.out) B5.out) B6.out) B7.out) B8.out) B9.out) B10.out) B11.out) B12.out) B13.out) B14.out) B15.out) B16.out) B17.out) B18.out) B19.out) B20.out) B21.out) B22.out) B23.out) B24.out) B25.out) B26.out) B27.out) B28.out) B29.out) B30.out) B31.out) B32.out) B33.out) B34.out) B35.out) B36.out) B37.out) B38.out) B39.out) B40.out) B41.out) B42.out) B43.out) B44.out) B45.out) B46.out) B47.out) B48.out) B49.out)⟩
    · have hn1 : (sizeOf t0 != 1) = true := by rw [bne_iff_ne]; exact h1
      clear h1
      go_wp2_with fail
      refine (sizeOfS _ _).mono ?_
      rintro e w' ⟨rfl, rfl⟩
      go_wp2
      go_ret
      exact ⟨rfl, (nxt (nxt (nxt (nxt (nxt (nxt (nxt (nxt (nxt (nxt (nxt (nxt (nxt (nxt (nxt (nxt (nxt (nxt (nxt (nxt (nxt (nxt (nxt (nxt (nxt (nxt (nxt (nxt (nxt (nxt (nxt (nxt (nxt (nxt (nxt (nxt (nxt (nxt (nxt (nxt (nxt (nxt (nxt (nxt (nxt (nxt (nxt (nxt B0.out B1.out) B2.out) B3.out) B4.out) B5.out) B6.out) B7.out) B8.out) B9.out) B10.out) B11.out) B12.out) B13.out) B14.out) B15.out) B16.out) B17.out) B18.out) B19.out) B20.out) B21.out) B22.out) B23.out) B24.out) B25.out) B26.out) B27.out) B28.out) B29.out) B30.out) B31.out) B32.out) B33.out) B34.out) B35.out) B36.out) B37.out) B38.out) B39.out) B40.out) B41.out) B42.out) B43.out) B44.out) B45.out) B46.out) B47.out) B48.out)⟩

set_option maxRecDepth 100000 in
theorem lifted_FnParts (os : Os) (started : os.Started) (H : Type) (enc : TypeId × Value → H) :
    ReturnsInHanded {} Try.checked os 10 .any (Rows.fnPartsSpec.pre6 enc Try.prog Try.f10 Rows.fnPartsRow.domain false) (Rows.fnPartsSpec.post enc Try.prog Try.f10 false true false false) := by
  refine returnsInHanded_of_change (C := Try.checked) own started (by kernel_rfl) Try.func10
    (ChangeSpec.witness6 (enc := enc) (C := Try.checked) false ⟨#[], #[.slice none 0 0], []⟩ 8 (by kernel_rfl) (by kernel_rfl) (by kernel_rfl) (by kernel_rfl)) ?_
  intro W base args ds gs before hval0 hW hcnd _
  have hval : ∀ (j : Nat) t v, Try.f10.params[j]? = some t → args[j]? = some v → Value.okWide Try.prog W .any base t v := hval0
  have hW' := hW
  obtain ⟨p, q, hA0, hV, rfl, hfz, hnd⟩ := hW
  have hA : DataW.TrodAll enc Try.prog W 0 (fun _ => true) true Try.f10.params.toList args.toList ds p := hA0
  rw [Try.params10] at hA hval
  have hB := fun W' => back_all (enc := enc) (W' := W') laidOut _ _ _ _ (show AllR Try.prog [31] from ⟨⟨by kernel_rfl, of_decide_eq_true (by kernel_rfl)⟩, trivial⟩) hA
  obtain ⟨v0, vs0, d0, ds0, p0, q0, hargs, rfl, rfl, h0, r0⟩ := trodAll_cons hA
  obtain ⟨rfl, rfl, rfl⟩ := trodAll_nil r0
  obtain rfl : args = #[v0] := by cases args; simp_all
  obtain ⟨rfl, rfl⟩ := trodVars_none hV
  obtain ⟨ls0, rd0, bl0⟩ := openBytes Try.underlying31 Try.underlying5 (by kernel_rfl) h0 (okWide_slice Try.underlying31 (hval 0 31 v0 rfl rfl))
  clear hA0 hval0
  refine (walk_FnParts W v0 ls0 rd0 bl0).mono fun e W' ⟨he, bel⟩ => ?_
  subst he
  exact ⟨_, rfl, _, _, _, [], _, [], hW', trodAll_mk1 (shut_bool Try.underlying4 _), hB W' bel, rfl, bel.frame _, fun h => by cases h⟩

theorem FnParts_holds : Rows.FnPartsSaid :=
  OpenClaim.holds_of_wide 10 Try.f10 rfl rfl rfl rfl rfl rfl rfl ⟨rfl, rfl, rfl, rfl, rfl⟩ rfl rfl rfl rfl rfl (by kernel_rfl) Try.func10 (by kernel_rfl)
    (of_decide_eq_true (by kernel_rfl)) (by unfold Func.isWrapper; first | (rw [if_pos (by decide +kernel)]; kernel_rfl) | (rw [if_neg (by decide +kernel)]; exact ⟨rfl, rfl⟩))
    (fun os started H enc _ => lifted_FnParts os started H enc)
end Go.Proofs.Ytmkacjpjcfffmaa
