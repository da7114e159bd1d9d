/- The law FnComplexes, and its tied card. No condition. -/
import Derived.Deep.DeepCutAuto
import Derived.Deep.RegionHeld3
import Derived.Test.YtmkacjpjcfffmabGreatDoorP1
import Derived.Test.YtmkacjpjcfffmabGreatDoorP5
import Derived.Test.YtmkacjpjcfffmabGreatDoorP6
import Derived.Test.YtmkacjpjcfffmabGreatDoorP7
import Derived.Test.YtmkacjpjcfffmabGreatDoorP8
import Derived.Test.YtmkacjpjcfffmabGreatDoorP9
import Derived.Test.YtmkacjpjcfffmabGreatDoorP10
import Derived.Test.YtmkacjpjcfffmabGreatDoorP12
namespace Go.Proofs.YtmkacjpjcfffmabGreatDoor
open Go.ChangeShapes Go.WideShapes Go.ChangeAt Go.RowKit
open Go.ChangeMaps (open_string shut_string)
set_option linter.unusedVariables false

set_option maxHeartbeats 40000000 in
set_option maxRecDepth 100000 in
theorem walk_FnComplexes (w : World) (hT : Tab w) (v0 : Value) (ls0 : List UInt8) (rd0 : BytesAt w w.heap.size v0 ls0) (bl0 : ls0.length ≤ 9223372036854775807) : Calls Tryz.prog 3 #[v0] w fun e w' => RetB w true e w' := by
  have HT := hide hT
  clear hT
  have Rd0 := hide rd0
  obtain ⟨A0, k0, hv0, hk0, hrest⟩ := rd0
  have hl0 : (bytesV ls0).length = ls0.length := List.length_map _
  rw [hl0] at hv0
  subst hv0
  clear hrest hk0 hl0
  by_cases hgd : (1048576 : Int) < (ls0.length : Int)
  · have hd := hide (decide_eq_true hgd)
    clear hgd
    go_enter Tryz.func3, Tryz.ntmps3
    go_wp2_with fail
    refine (bigS _ ls0 w Rd0.out).mono ?_
    rw [hd.out]
    rintro e w' ⟨rfl, rfl⟩
    go_wp2
    go_ret
    exact ⟨rfl, Below.refl _ _⟩
  have hd := hide (decide_eq_false hgd)
  have hgd2 : ls0.length ≤ 1048576 := by omega
  clear hgd
  go_enter Tryz.func3, Tryz.ntmps3
  go_wp2_with fail
  refine (bigS _ ls0 w Rd0.out).mono ?_
  rw [hd.out]
  rintro e w' ⟨rfl, rfl⟩
  go_wp2_with fail
  refine (drawComplexTextS _ ls0 w (nowB_ Rd0.out (Below.refl _ _)) (by omega)).mono ?_
  rintro e w1 ⟨n0, vx, xs0, hf0, rfl, ox, b1⟩
  have B0 := hide b1
  clear b1
  obtain ⟨Ax, cx, rfl⟩ := own_shape ox
  have Ox := hide ox
  clear ox
  have hl0 : xs0.length ≤ 1000 := hf0.2.2.1
  clear hf0
  obtain ⟨okc, hokc⟩ : ∃ y, y = isCx n0 xs0 := ⟨_, rfl⟩
  have Hokc := hide hokc
  clear hokc
  obtain ⟨w2, hW2, atbx, b2, z2⟩ := boxC w1 (.int .i64 n0) (.slice Ax xs0.length cx) 26
  have Tbx := hide atbx
  clear atbx z2
  have B1 := hide b2
  clear b2
  go_wp2_with fail
  clear hW2
  refine (drawParseComplexS _ ls0 w2 (nowB_ Rd0.out (nxt B0.out B1.out)) (by omega)).mono ?_
  rintro e w3 ⟨s, hs, rfl, b3⟩
  have B2 := hide b3
  clear b3
  obtain ⟨ok1, hok1⟩ : ∃ y, y = pcxOk s := ⟨_, rfl⟩
  have Hok1 := hide hok1
  clear hok1
  obtain ⟨N1, hN1⟩ : ∃ y, y = pcxN s := ⟨_, rfl⟩
  have HN1 := hide hN1
  clear hN1
  obtain ⟨y1, hy1⟩ : ∃ y, y = pcxXs s := ⟨_, rfl⟩
  have Hy1 := hide hy1
  clear hy1
  have l1 : y1.length ≤ 3145729 := by rw [Hy1.out]; exact Nat.le_trans (pcx_len s) (by omega)
  go_wp2_with fail
  refine (asCB (parseComplexI s w3 (by omega)) HN1.out Hy1.out Hok1.out).mono ?_
  rintro e w4 ⟨vPI, rfl, oPI, b4⟩
  have B3 := hide b4
  clear b4
  obtain ⟨API, cPI, rfl⟩ := own_shape oPI
  have OPI := hide oPI
  clear oPI
  obtain ⟨w5, hW5, atbPI, b5, z5⟩ := boxC w4 (.int .i64 N1) (.slice API y1.length cPI) 26
  have TbPI := hide atbPI
  clear atbPI z5
  have B4 := hide b5
  clear b5
  go_wp2_with fail
  clear hW5
  refine (asCB (parseComplexS s w5 (by omega)) HN1.out Hy1.out Hok1.out).mono ?_
  rintro e w6 ⟨vPS, rfl, oPS, b6⟩
  have B5 := hide b6
  clear b6
  obtain ⟨APS, cPS, rfl⟩ := own_shape oPS
  have OPS := hide oPS
  clear oPS
  obtain ⟨w7, hW7, atbPS, b7, z7⟩ := boxC w6 (.int .i64 N1) (.slice APS y1.length cPS) 26
  have TbPS := hide atbPS
  clear atbPS z7
  have B6 := hide b7
  clear b7
  go_wp2_with fail
  clear hW7
  refine (drawMakeComplexS _ ls0 w7 (nowB_ Rd0.out (nxt (nxt (nxt (nxt (nxt (nxt B0.out B1.out) B2.out) B3.out) B4.out) B5.out) B6.out)) (by omega)).mono ?_
  rintro e w8 ⟨n2, v2, xs2, hn2, hn2b, hs2, rfl, o2, b8⟩
  have B7 := hide b8
  clear b8
  obtain ⟨Am, cm, rfl⟩ := own_shape o2
  have Om := hide o2
  clear o2
  have hl2 : xs2.length ≤ 6 := hs2.1
  clear hs2
  obtain ⟨ok2, hok2⟩ : ∃ y, y = okSets n2 xs2 := ⟨_, rfl⟩
  have Hok2 := hide hok2
  clear hok2
  obtain ⟨N2, hN2⟩ : ∃ y, y = mkN n2 xs2 := ⟨_, rfl⟩
  have HN2 := hide hN2
  clear hN2
  obtain ⟨y2, hy2⟩ : ∃ y, y = mkXs n2 xs2 := ⟨_, rfl⟩
  have Hy2 := hide hy2
  clear hy2
  have l2 : y2.length ≤ 448 := by rw [Hy2.out]; exact mkXs_len n2 xs2
  go_wp2_with fail
  refine (asCB (makeComplexI n2 _ xs2 w8 (own_reads Om.out) (by omega)) HN2.out Hy2.out Hok2.out).mono ?_
  rintro e w9 ⟨vMI, rfl, oMI, b9⟩
  have B8 := hide b9
  clear b9
  obtain ⟨AMI, cMI, rfl⟩ := own_shape oMI
  have OMI := hide oMI
  clear oMI
  obtain ⟨w10, hW10, atbMI, b10, z10⟩ := boxC w9 (.int .i64 N2) (.slice AMI y2.length cMI) 26
  have TbMI := hide atbMI
  clear atbMI z10
  have B9 := hide b10
  clear b10
  go_wp2_with fail
  clear hW10
  refine (asCB (makeComplexS n2 _ xs2 w10 (now_ (own_reads Om.out) (nxt B8.out B9.out)) (by omega)) HN2.out Hy2.out Hok2.out).mono ?_
  rintro e w11 ⟨vMS, rfl, oMS, b11⟩
  have B10 := hide b11
  clear b11
  obtain ⟨AMS, cMS, rfl⟩ := own_shape oMS
  have OMS := hide oMS
  clear oMS
  obtain ⟨w12, hW12, atbMS, b12, z12⟩ := boxC w11 (.int .i64 N2) (.slice AMS y2.length cMS) 26
  have TbMS := hide atbMS
  clear atbMS z12
  have B11 := hide b12
  clear b12
  go_wp2_with fail
  clear hW12
  refine (drawHasFaceS _ ls0 w12 (nowB_ Rd0.out (nxt (nxt (nxt (nxt (nxt (nxt (nxt (nxt (nxt (nxt (nxt B0.out B1.out) B2.out) B3.out) B4.out) B5.out) B6.out) B7.out) B8.out) B9.out) B10.out) B11.out)) (by omega)).mono ?_
  rintro e w13 ⟨n3, v3, xs3, t3, hf3, ht3, ht3b, rfl, o3, b13⟩
  have B12 := hide b13
  clear b13
  obtain ⟨Ad, cd, rfl⟩ := own_shape o3
  have Od := hide o3
  clear o3
  have hl3 : xs3.length ≤ 1000 := hf3.2.2.1
  clear hf3
  obtain ⟨bh, hbh⟩ : ∃ y, y = hasFaceOf n3 xs3 t3 := ⟨_, rfl⟩
  have Hbh := hide hbh
  clear hbh
  obtain ⟨w14, hW14, atbd, b14, z14⟩ := boxC w13 (.int .i64 n3) (.slice Ad xs3.length cd) 26
  have Tbd := hide atbd
  clear atbd z14
  have B13 := hide b14
  clear b14
  go_wp2_with fail
  clear hW14
  refine (drawEqualComplexS _ ls0 w14 (nowB_ Rd0.out (nxt (nxt (nxt (nxt (nxt (nxt (nxt (nxt (nxt (nxt (nxt (nxt (nxt B0.out B1.out) B2.out) B3.out) B4.out) B5.out) B6.out) B7.out) B8.out) B9.out) B10.out) B11.out) B12.out) B13.out)) (by omega)).mono ?_
  rintro e w15 ⟨n4, v4, xs4, n5, v5, xs5, hf4, hf5, rfl, o4, o5, b15⟩
  have B14 := hide b15
  clear b15
  obtain ⟨Ae, ce, rfl⟩ := own_shape o4
  have Oe := hide o4
  clear o4
  obtain ⟨Af, cf, rfl⟩ := own_shape o5
  have Of := hide o5
  clear o5
  have hl4 : xs4.length ≤ 1000 := hf4.2.2.1
  have hl5 : xs5.length ≤ 1000 := hf5.2.2.1
  clear hf4 hf5
  obtain ⟨bq, hbq⟩ : ∃ y, y = (decide (n4 = n5) && decide (xs4 = xs5)) := ⟨_, rfl⟩
  have Hbq := hide hbq
  clear hbq
  obtain ⟨w16, hW16, atbe, atbf, b16, z16⟩ := boxTwo w15 (.int .i64 n4) (.slice Ae xs4.length ce) (.int .i64 n5) (.slice Af xs5.length cf) 26
  have Tbe := hide atbe
  have Tbf := hide atbf
  clear atbe atbf z16
  have B15 := hide b16
  clear b16
  go_wp2_with fail
  clear hW16
  refine (drawFullComplexS _ ls0 w16 (nowB_ Rd0.out (nxt (nxt (nxt (nxt (nxt (nxt (nxt (nxt (nxt (nxt (nxt (nxt (nxt (nxt (nxt B0.out B1.out) B2.out) B3.out) B4.out) B5.out) B6.out) B7.out) B8.out) B9.out) B10.out) B11.out) B12.out) B13.out) B14.out) B15.out)) (by omega)).mono ?_
  rintro e w17 ⟨m, hm1, hm2, rfl, b17⟩
  have B16 := hide b17
  clear b17
  obtain ⟨ok6, hok6⟩ : ∃ y, y = fullB m := ⟨_, rfl⟩
  have Hok6 := hide hok6
  clear hok6
  obtain ⟨N6, hN6⟩ : ∃ y, y = fullN m := ⟨_, rfl⟩
  have HN6 := hide hN6
  clear hN6
  obtain ⟨y6, hy6⟩ : ∃ y, y = fullXs m := ⟨_, rfl⟩
  have Hy6 := hide hy6
  clear hy6
  obtain ⟨ok7, hok7⟩ : ∃ y, y = borderOk m := ⟨_, rfl⟩
  have Hok7 := hide hok7
  clear hok7
  obtain ⟨N7, hN7⟩ : ∃ y, y = borderN m := ⟨_, rfl⟩
  have HN7 := hide hN7
  clear hN7
  obtain ⟨y7, hy7⟩ : ∃ y, y = borderXs m := ⟨_, rfl⟩
  have Hy7 := hide hy7
  clear hy7
  have l6 : y6.length ≤ 1 := by rw [Hy6.out]; exact full_len m
  have l7 : y7.length ≤ 448 := by rw [Hy7.out]; exact borderXs_len m
  go_wp2_with fail
  refine (asCB (fullComplexI m w17) HN6.out Hy6.out Hok6.out).mono ?_
  rintro e w18 ⟨vFI, rfl, oFI, b18⟩
  have B17 := hide b18
  clear b18
  obtain ⟨AFI, cFI, rfl⟩ := own_shape oFI
  have OFI := hide oFI
  clear oFI
  obtain ⟨w19, hW19, atbFI, b19, z19⟩ := boxC w18 (.int .i64 N6) (.slice AFI y6.length cFI) 26
  have TbFI := hide atbFI
  clear atbFI z19
  have B18 := hide b19
  clear b19
  go_wp2_with fail
  clear hW19
  refine (asCB (fullComplexS m w19) HN6.out Hy6.out Hok6.out).mono ?_
  rintro e w20 ⟨vFS, rfl, oFS, b20⟩
  have B19 := hide b20
  clear b20
  obtain ⟨AFS, cFS, rfl⟩ := own_shape oFS
  have OFS := hide oFS
  clear oFS
  obtain ⟨w21, hW21, atbFS, b21, z21⟩ := boxC w20 (.int .i64 N6) (.slice AFS y6.length cFS) 26
  have TbFS := hide atbFS
  clear atbFS z21
  have B20 := hide b21
  clear b21
  go_wp2_with fail
  clear hW21
  refine (asCB (borderComplexI m w21) HN7.out Hy7.out Hok7.out).mono ?_
  rintro e w22 ⟨vBI, rfl, oBI, b22⟩
  have B21 := hide b22
  clear b22
  obtain ⟨ABI, cBI, rfl⟩ := own_shape oBI
  have OBI := hide oBI
  clear oBI
  obtain ⟨w23, hW23, atbBI, b23, z23⟩ := boxC w22 (.int .i64 N7) (.slice ABI y7.length cBI) 26
  have TbBI := hide atbBI
  clear atbBI z23
  have B22 := hide b23
  clear b23
  go_wp2_with fail
  clear hW23
  refine (asCB (borderComplexS m w23) HN7.out Hy7.out Hok7.out).mono ?_
  rintro e w24 ⟨vBS, rfl, oBS, b24⟩
  have B23 := hide b24
  clear b24
  obtain ⟨ABS, cBS, rfl⟩ := own_shape oBS
  have OBS := hide oBS
  clear oBS
  obtain ⟨w25, hW25, atbBS, b25, z25⟩ := boxC w24 (.int .i64 N7) (.slice ABS y7.length cBS) 26
  have TbBS := hide atbBS
  clear atbBS z25
  have B24 := hide b25
  clear b25
  have hne_ok1 : (ok1 != ok1) = false := by simp
  have hne_ok2 : (ok2 != ok2) = false := by simp
  have hne_ok6 : (ok6 != ok6) = false := by simp
  have hne_ok7 : (ok7 != ok7) = false := by simp
  have hne_bh : (bh != bh) = false := by simp
  have hne_bq : (bq != bq) = false := by simp
  have hne_okc : (okc != okc) = false := by simp
  go_upto_region 17 with fail
  clear hW25
  go_cut [165] (fun sx wx => sx = .bool false ∧ Hid (Below w25.heap.size w25 wx))
  case first =>
    have qbPI := hide (AtC.to TbPI.out (nxt (nxt (nxt (nxt (nxt (nxt (nxt (nxt (nxt (nxt (nxt (nxt (nxt (nxt (nxt (nxt (nxt (nxt (nxt B5.out B6.out) B7.out) B8.out) B9.out) B10.out) B11.out) B12.out) B13.out) B14.out) B15.out) B16.out) B17.out) B18.out) B19.out) B20.out) B21.out) B22.out) B23.out) B24.out))
    have qbPS := hide (AtC.to TbPS.out (nxt (nxt (nxt (nxt (nxt (nxt (nxt (nxt (nxt (nxt (nxt (nxt (nxt (nxt (nxt (nxt (nxt B7.out B8.out) B9.out) B10.out) B11.out) B12.out) B13.out) B14.out) B15.out) B16.out) B17.out) B18.out) B19.out) B20.out) B21.out) B22.out) B23.out) B24.out))
    have qbMI := hide (AtC.to TbMI.out (nxt (nxt (nxt (nxt (nxt (nxt (nxt (nxt (nxt (nxt (nxt (nxt (nxt (nxt B10.out B11.out) B12.out) B13.out) B14.out) B15.out) B16.out) B17.out) B18.out) B19.out) B20.out) B21.out) B22.out) B23.out) B24.out))
    have qbMS := hide (AtC.to TbMS.out (nxt (nxt (nxt (nxt (nxt (nxt (nxt (nxt (nxt (nxt (nxt (nxt B12.out B13.out) B14.out) B15.out) B16.out) B17.out) B18.out) B19.out) B20.out) B21.out) B22.out) B23.out) B24.out))
    have qbd := hide (AtC.to Tbd.out (nxt (nxt (nxt (nxt (nxt (nxt (nxt (nxt (nxt (nxt B14.out B15.out) B16.out) B17.out) B18.out) B19.out) B20.out) B21.out) B22.out) B23.out) B24.out))
    have qbe := hide (AtC.to Tbe.out (nxt (nxt (nxt (nxt (nxt (nxt (nxt (nxt B16.out B17.out) B18.out) B19.out) B20.out) B21.out) B22.out) B23.out) B24.out))
    have qbf := hide (AtC.to Tbf.out (nxt (nxt (nxt (nxt (nxt (nxt (nxt (nxt B16.out B17.out) B18.out) B19.out) B20.out) B21.out) B22.out) B23.out) B24.out))
    have qbFI := hide (AtC.to TbFI.out (nxt (nxt (nxt (nxt (nxt B19.out B20.out) B21.out) B22.out) B23.out) B24.out))
    have qbFS := hide (AtC.to TbFS.out (nxt (nxt (nxt B21.out B22.out) B23.out) B24.out))
    have qbBI := hide (AtC.to TbBI.out (nxt B23.out B24.out))
    have qbBS := hide (AtC.to TbBS.out (Below.refl _ _))
    have qbx := hide (AtC.to Tbx.out (nxt (nxt (nxt (nxt (nxt (nxt (nxt (nxt (nxt (nxt (nxt (nxt (nxt (nxt (nxt (nxt (nxt (nxt (nxt (nxt (nxt (nxt B2.out B3.out) B4.out) B5.out) B6.out) B7.out) B8.out) B9.out) B10.out) B11.out) B12.out) B13.out) B14.out) B15.out) B16.out) B17.out) B18.out) B19.out) B20.out) B21.out) B22.out) B23.out) B24.out))
    have rPI := hide (now_ (own_reads OPI.out) (nxt (nxt (nxt (nxt (nxt (nxt (nxt (nxt (nxt (nxt (nxt (nxt (nxt (nxt (nxt (nxt (nxt (nxt (nxt (nxt B4.out B5.out) B6.out) B7.out) B8.out) B9.out) B10.out) B11.out) B12.out) B13.out) B14.out) B15.out) B16.out) B17.out) B18.out) B19.out) B20.out) B21.out) B22.out) B23.out) B24.out))
    have rPS := hide (now_ (own_reads OPS.out) (nxt (nxt (nxt (nxt (nxt (nxt (nxt (nxt (nxt (nxt (nxt (nxt (nxt (nxt (nxt (nxt (nxt (nxt B6.out B7.out) B8.out) B9.out) B10.out) B11.out) B12.out) B13.out) B14.out) B15.out) B16.out) B17.out) B18.out) B19.out) B20.out) B21.out) B22.out) B23.out) B24.out))
    have rMI := hide (now_ (own_reads OMI.out) (nxt (nxt (nxt (nxt (nxt (nxt (nxt (nxt (nxt (nxt (nxt (nxt (nxt (nxt (nxt B9.out B10.out) B11.out) B12.out) B13.out) B14.out) B15.out) B16.out) B17.out) B18.out) B19.out) B20.out) B21.out) B22.out) B23.out) B24.out))
    have rMS := hide (now_ (own_reads OMS.out) (nxt (nxt (nxt (nxt (nxt (nxt (nxt (nxt (nxt (nxt (nxt (nxt (nxt B11.out B12.out) B13.out) B14.out) B15.out) B16.out) B17.out) B18.out) B19.out) B20.out) B21.out) B22.out) B23.out) B24.out))
    have rd := hide (now_ (own_reads Od.out) (nxt (nxt (nxt (nxt (nxt (nxt (nxt (nxt (nxt (nxt (nxt B13.out B14.out) B15.out) B16.out) B17.out) B18.out) B19.out) B20.out) B21.out) B22.out) B23.out) B24.out))
    have re := hide (now_ (own_reads Oe.out) (nxt (nxt (nxt (nxt (nxt (nxt (nxt (nxt (nxt B15.out B16.out) B17.out) B18.out) B19.out) B20.out) B21.out) B22.out) B23.out) B24.out))
    have rf := hide (now_ (own_reads Of.out) (nxt (nxt (nxt (nxt (nxt (nxt (nxt (nxt (nxt B15.out B16.out) B17.out) B18.out) B19.out) B20.out) B21.out) B22.out) B23.out) B24.out))
    have rFI := hide (now_ (own_reads OFI.out) (nxt (nxt (nxt (nxt (nxt (nxt B18.out B19.out) B20.out) B21.out) B22.out) B23.out) B24.out))
    have rFS := hide (now_ (own_reads OFS.out) (nxt (nxt (nxt (nxt B20.out B21.out) B22.out) B23.out) B24.out))
    have rBI := hide (now_ (own_reads OBI.out) (nxt (nxt B22.out B23.out) B24.out))
    have rBS := hide (now_ (own_reads OBS.out) B24.out)
    have rx := hide (now_ (own_reads Ox.out) (nxt (nxt (nxt (nxt (nxt (nxt (nxt (nxt (nxt (nxt (nxt (nxt (nxt (nxt (nxt (nxt (nxt (nxt (nxt (nxt (nxt (nxt (nxt B1.out B2.out) B3.out) B4.out) B5.out) B6.out) B7.out) B8.out) B9.out) B10.out) B11.out) B12.out) B13.out) B14.out) B15.out) B16.out) B17.out) B18.out) B19.out) B20.out) B21.out) B22.out) B23.out) B24.out))
    have hS : Hid (∀ X : World, Below w25.heap.size w25 X → ((X.cell? ⟨w4.heap.size, 0, none⟩ = some (.int .i64 N1) ∧ X.cell? ⟨w4.heap.size, 1, none⟩ = some (.slice API y1.length cPI)) ∧ (X.cell? ⟨w6.heap.size, 0, none⟩ = some (.int .i64 N1) ∧ X.cell? ⟨w6.heap.size, 1, none⟩ = some (.slice APS y1.length cPS)) ∧ (X.cell? ⟨w9.heap.size, 0, none⟩ = some (.int .i64 N2) ∧ X.cell? ⟨w9.heap.size, 1, none⟩ = some (.slice AMI y2.length cMI)) ∧ (X.cell? ⟨w11.heap.size, 0, none⟩ = some (.int .i64 N2) ∧ X.cell? ⟨w11.heap.size, 1, none⟩ = some (.slice AMS y2.length cMS)) ∧ (X.cell? ⟨w13.heap.size, 0, none⟩ = some (.int .i64 n3) ∧ X.cell? ⟨w13.heap.size, 1, none⟩ = some (.slice Ad xs3.length cd)) ∧ (X.cell? ⟨w15.heap.size, 0, none⟩ = some (.int .i64 n4) ∧ X.cell? ⟨w15.heap.size, 1, none⟩ = some (.slice Ae xs4.length ce)) ∧ (X.cell? ⟨(w15.heap.size + 1), 0, none⟩ = some (.int .i64 n5) ∧ X.cell? ⟨(w15.heap.size + 1), 1, none⟩ = some (.slice Af xs5.length cf)) ∧ (X.cell? ⟨w18.heap.size, 0, none⟩ = some (.int .i64 N6) ∧ X.cell? ⟨w18.heap.size, 1, none⟩ = some (.slice AFI y6.length cFI)) ∧ (X.cell? ⟨w20.heap.size, 0, none⟩ = some (.int .i64 N6) ∧ X.cell? ⟨w20.heap.size, 1, none⟩ = some (.slice AFS y6.length cFS)) ∧ (X.cell? ⟨w22.heap.size, 0, none⟩ = some (.int .i64 N7) ∧ X.cell? ⟨w22.heap.size, 1, none⟩ = some (.slice ABI y7.length cBI)) ∧ (X.cell? ⟨w24.heap.size, 0, none⟩ = some (.int .i64 N7) ∧ X.cell? ⟨w24.heap.size, 1, none⟩ = some (.slice ABS y7.length cBS)) ∧ (X.cell? ⟨w1.heap.size, 0, none⟩ = some (.int .i64 n0) ∧ X.cell? ⟨w1.heap.size, 1, none⟩ = some (.slice Ax xs0.length cx)) ∧ Hid (Below w25.heap.size w25 X))) := fun X h => ⟨AtC.to qbPI.out h, AtC.to qbPS.out h, AtC.to qbMI.out h, AtC.to qbMS.out h, AtC.to qbd.out h, AtC.to qbe.out h, AtC.to qbf.out h, AtC.to qbFI.out h, AtC.to qbFS.out h, AtC.to qbBI.out h, AtC.to qbBS.out h, AtC.to qbx.out h, h⟩
    have hb0 : Below w25.heap.size w25 w25.drew := (Below.refl _ _).drew
    dsimp only [List.append]
    go_wp2_with fail
    go_region_held3 (fun X => ((X.cell? ⟨w4.heap.size, 0, none⟩ = some (.int .i64 N1) ∧ X.cell? ⟨w4.heap.size, 1, none⟩ = some (.slice API y1.length cPI)) ∧ (X.cell? ⟨w6.heap.size, 0, none⟩ = some (.int .i64 N1) ∧ X.cell? ⟨w6.heap.size, 1, none⟩ = some (.slice APS y1.length cPS)) ∧ (X.cell? ⟨w9.heap.size, 0, none⟩ = some (.int .i64 N2) ∧ X.cell? ⟨w9.heap.size, 1, none⟩ = some (.slice AMI y2.length cMI)) ∧ (X.cell? ⟨w11.heap.size, 0, none⟩ = some (.int .i64 N2) ∧ X.cell? ⟨w11.heap.size, 1, none⟩ = some (.slice AMS y2.length cMS)) ∧ (X.cell? ⟨w13.heap.size, 0, none⟩ = some (.int .i64 n3) ∧ X.cell? ⟨w13.heap.size, 1, none⟩ = some (.slice Ad xs3.length cd)) ∧ (X.cell? ⟨w15.heap.size, 0, none⟩ = some (.int .i64 n4) ∧ X.cell? ⟨w15.heap.size, 1, none⟩ = some (.slice Ae xs4.length ce)) ∧ (X.cell? ⟨(w15.heap.size + 1), 0, none⟩ = some (.int .i64 n5) ∧ X.cell? ⟨(w15.heap.size + 1), 1, none⟩ = some (.slice Af xs5.length cf)) ∧ (X.cell? ⟨w18.heap.size, 0, none⟩ = some (.int .i64 N6) ∧ X.cell? ⟨w18.heap.size, 1, none⟩ = some (.slice AFI y6.length cFI)) ∧ (X.cell? ⟨w20.heap.size, 0, none⟩ = some (.int .i64 N6) ∧ X.cell? ⟨w20.heap.size, 1, none⟩ = some (.slice AFS y6.length cFS)) ∧ (X.cell? ⟨w22.heap.size, 0, none⟩ = some (.int .i64 N7) ∧ X.cell? ⟨w22.heap.size, 1, none⟩ = some (.slice ABI y7.length cBI)) ∧ (X.cell? ⟨w24.heap.size, 0, none⟩ = some (.int .i64 N7) ∧ X.cell? ⟨w24.heap.size, 1, none⟩ = some (.slice ABS y7.length cBS)) ∧ (X.cell? ⟨w1.heap.size, 0, none⟩ = some (.int .i64 n0) ∧ X.cell? ⟨w1.heap.size, 1, none⟩ = some (.slice Ax xs0.length cx)) ∧ Hid (Below w25.heap.size w25 X))) (first | with_reducible exact hS.out _ (by assumption) | go_keep) (first | (go_at_call 19; rename_i hSx _ _; (first | (go_fit (sameComplex_same N1 _ _ y1 _ (now_ rPI.out hSx.2.2.2.2.2.2.2.2.2.2.2.2) (now_ rPS.out hSx.2.2.2.2.2.2.2.2.2.2.2.2) (by omega))) | (go_fit (sameComplex_same N2 _ _ y2 _ (now_ rMI.out hSx.2.2.2.2.2.2.2.2.2.2.2.2) (now_ rMS.out hSx.2.2.2.2.2.2.2.2.2.2.2.2) (by omega))) | (go_fit (sameComplex_same N6 _ _ y6 _ (now_ rFI.out hSx.2.2.2.2.2.2.2.2.2.2.2.2) (now_ rFS.out hSx.2.2.2.2.2.2.2.2.2.2.2.2) (by omega))) | (go_fit (sameComplex_same N7 _ _ y7 _ (now_ rBI.out hSx.2.2.2.2.2.2.2.2.2.2.2.2) (now_ rBS.out hSx.2.2.2.2.2.2.2.2.2.2.2.2) (by omega)))); rintro e wq ⟨rfl, bq⟩; have hb0 := nxt hSx.2.2.2.2.2.2.2.2.2.2.2.2 bq) | (go_at_call 20; rename_i hSx _ _; refine (asRB (hasFaceI n3 _ xs3 t3 _ (now_ rd.out hSx.2.2.2.2.2.2.2.2.2.2.2.2) (by omega)) Hbh.out).mono ?_; rintro e wq ⟨rfl, bq⟩; have hb0 := nxt hSx.2.2.2.2.2.2.2.2.2.2.2.2 bq) | (go_at_call 22; rename_i hSx _ _; refine (asRB (equalComplexI n4 n5 _ _ xs4 xs5 _ (now_ re.out hSx.2.2.2.2.2.2.2.2.2.2.2.2) (now_ rf.out hSx.2.2.2.2.2.2.2.2.2.2.2.2) (by omega) (by omega)) Hbq.out).mono ?_; rintro e wq ⟨rfl, bq⟩; have hb0 := nxt hSx.2.2.2.2.2.2.2.2.2.2.2.2 bq) | (go_at_call 24; rename_i hSx _ _; refine (asRB (isComplexI n0 _ xs0 _ (now_ rx.out hSx.2.2.2.2.2.2.2.2.2.2.2.2) (by omega)) Hokc.out).mono ?_; rintro e wq ⟨rfl, bq⟩; have hb0 := nxt hSx.2.2.2.2.2.2.2.2.2.2.2.2 bq) | (go_at_call 21; rename_i hSx _ _; refine (asRB (hasFaceS n3 _ xs3 t3 _ (now_ rd.out hSx.2.2.2.2.2.2.2.2.2.2.2.2) (by omega)) Hbh.out).mono ?_; rintro e wq ⟨rfl, bq⟩; have hb0 := nxt hSx.2.2.2.2.2.2.2.2.2.2.2.2 bq) | (go_at_call 23; rename_i hSx _ _; refine (asRB (equalComplexS n4 n5 _ _ xs4 xs5 _ (now_ re.out hSx.2.2.2.2.2.2.2.2.2.2.2.2) (now_ rf.out hSx.2.2.2.2.2.2.2.2.2.2.2.2) (by omega) (by omega)) Hbq.out).mono ?_; rintro e wq ⟨rfl, bq⟩; have hb0 := nxt hSx.2.2.2.2.2.2.2.2.2.2.2.2 bq) | (go_at_call 25; rename_i hSx _ _; refine (asRB (isComplexS n0 _ xs0 _ (now_ rx.out hSx.2.2.2.2.2.2.2.2.2.2.2.2) (by omega)) Hokc.out).mono ?_; rintro e wq ⟨rfl, bq⟩; have hb0 := nxt hSx.2.2.2.2.2.2.2.2.2.2.2.2 bq))
    all_goals (
      go_wp2_with fail
      go_meet
      exact ⟨rfl, hb0⟩)
  case rest =>
    obtain ⟨rfl, hC⟩ := hcut
    generalize hwc : wc = w26 at hC ⊢
    clear hwc
    have b26 := hC.out
    clear hC
    have B25 := hide b26
    clear b26
    clear hne_ok1 hne_ok2 hne_ok6 hne_ok7 hne_bh hne_bq hne_okc
    obtain ⟨yF, hyF⟩ : ∃ y, y = zs (facesOf n0 xs0) := ⟨_, rfl⟩
    have HyF := hide hyF
    clear hyF
    have lF : yF.length ≤ 64 := by rw [HyF.out]; exact faces_len n0 xs0
    obtain ⟨p1_0, p1_1⟩ : AtC w26 w1.heap.size (.int .i64 n0) (.slice Ax xs0.length cx) := (AtC.to Tbx.out (nxt (nxt (nxt (nxt (nxt (nxt (nxt (nxt (nxt (nxt (nxt (nxt (nxt (nxt (nxt (nxt (nxt (nxt (nxt (nxt (nxt (nxt (nxt B2.out B3.out) B4.out) B5.out) B6.out) B7.out) B8.out) B9.out) B10.out) B11.out) B12.out) B13.out) B14.out) B15.out) B16.out) B17.out) B18.out) B19.out) B20.out) B21.out) B22.out) B23.out) B24.out) B25.out))
    go_wp2_with fail
    clear p1_0 p1_1
    refine (asI (facesOfI n0 _ xs0 w26 (now_ (own_reads Ox.out) (nxt (nxt (nxt (nxt (nxt (nxt (nxt (nxt (nxt (nxt (nxt (nxt (nxt (nxt (nxt (nxt (nxt (nxt (nxt (nxt (nxt (nxt (nxt (nxt B1.out B2.out) B3.out) B4.out) B5.out) B6.out) B7.out) B8.out) B9.out) B10.out) B11.out) B12.out) B13.out) B14.out) B15.out) B16.out) B17.out) B18.out) B19.out) B20.out) B21.out) B22.out) B23.out) B24.out) B25.out)) (by omega)) HyF.out).mono ?_
    rintro e w27 ⟨vF, rfl, oF, b27⟩
    have B26 := hide b27
    clear b27
    obtain ⟨AF, cF, rfl⟩ := own_shape oF
    have OF := hide oF
    clear oF
    obtain ⟨tx, htx⟩ : ∃ y, y = cxTxt n0 xs0 := ⟨_, rfl⟩
    have Htx := hide htx
    clear htx
    have ltx : tx.length ≤ 4000 := by rw [Htx.out]; exact cxTxt_len n0 xs0
    obtain ⟨p2_0, p2_1⟩ : AtC w27 w1.heap.size (.int .i64 n0) (.slice Ax xs0.length cx) := (AtC.to Tbx.out (nxt (nxt (nxt (nxt (nxt (nxt (nxt (nxt (nxt (nxt (nxt (nxt (nxt (nxt (nxt (nxt (nxt (nxt (nxt (nxt (nxt (nxt (nxt (nxt B2.out B3.out) B4.out) B5.out) B6.out) B7.out) B8.out) B9.out) B10.out) B11.out) B12.out) B13.out) B14.out) B15.out) B16.out) B17.out) B18.out) B19.out) B20.out) B21.out) B22.out) B23.out) B24.out) B25.out) B26.out))
    go_wp2_with fail
    clear p2_0 p2_1
    refine (asS2 (complexTextI n0 _ xs0 w27 (now_ (own_reads Ox.out) (nxt (nxt (nxt (nxt (nxt (nxt (nxt (nxt (nxt (nxt (nxt (nxt (nxt (nxt (nxt (nxt (nxt (nxt (nxt (nxt (nxt (nxt (nxt (nxt (nxt B1.out B2.out) B3.out) B4.out) B5.out) B6.out) B7.out) B8.out) B9.out) B10.out) B11.out) B12.out) B13.out) B14.out) B15.out) B16.out) B17.out) B18.out) B19.out) B20.out) B21.out) B22.out) B23.out) B24.out) B25.out) B26.out)) (by omega) (HT.out.on (nxt (nxt (nxt (nxt (nxt (nxt (nxt (nxt (nxt (nxt (nxt (nxt (nxt (nxt (nxt (nxt (nxt (nxt (nxt (nxt (nxt (nxt (nxt (nxt (nxt (nxt B0.out B1.out) B2.out) B3.out) B4.out) B5.out) B6.out) B7.out) B8.out) B9.out) B10.out) B11.out) B12.out) B13.out) B14.out) B15.out) B16.out) B17.out) B18.out) B19.out) B20.out) B21.out) B22.out) B23.out) B24.out) B25.out) B26.out))) Htx.out).mono ?_
    rintro e w28 ⟨rfl, b28⟩
    have B27 := hide b28
    clear b28
    obtain ⟨N8, hN8⟩ : ∃ y, y = pcxN tx := ⟨_, rfl⟩
    have HN8 := hide hN8
    clear hN8
    obtain ⟨y8, hy8⟩ : ∃ y, y = pcxXs tx := ⟨_, rfl⟩
    have Hy8 := hide hy8
    clear hy8
    have l8 : y8.length ≤ 4001 := by rw [Hy8.out]; exact Nat.le_trans (pcx_len tx) (by omega)
    have Hok8 : Hid (okc = pcxOk tx) := by show _ = _; rw [Hokc.out, Htx.out, pcx_txt_ok]
    go_wp2_with fail
    refine (asCB (parseComplexI tx w28 (by omega)) HN8.out Hy8.out Hok8.out).mono ?_
    rintro e w29 ⟨vz, rfl, oz, b29⟩
    have B28 := hide b29
    clear b29
    obtain ⟨Az, cz, rfl⟩ := own_shape oz
    have Oz := hide oz
    clear oz
    obtain ⟨w30, hW30, atbz, b30, z30⟩ := boxC w29 (.int .i64 N8) (.slice Az y8.length cz) 26
    have Tbz := hide atbz
    clear atbz z30
    have B29 := hide b30
    clear b30
    have hne_t : (tx == tx) = true := by simp
    cases okc
    · skip
      have hz : ((yF.length : Int) == 0) = true := by
        have h := faces_none Hokc.out
        rw [HyF.out, h]
        rfl
      obtain ⟨p3_0, p3_1⟩ : AtC w30 w1.heap.size (.int .i64 n0) (.slice Ax xs0.length cx) := (AtC.to Tbx.out (nxt (nxt (nxt (nxt (nxt (nxt (nxt (nxt (nxt (nxt (nxt (nxt (nxt (nxt (nxt (nxt (nxt (nxt (nxt (nxt (nxt (nxt (nxt (nxt (nxt (nxt (nxt B2.out B3.out) B4.out) B5.out) B6.out) B7.out) B8.out) B9.out) B10.out) B11.out) B12.out) B13.out) B14.out) B15.out) B16.out) B17.out) B18.out) B19.out) B20.out) B21.out) B22.out) B23.out) B24.out) B25.out) B26.out) B27.out) B28.out) B29.out))
      go_wp2_with fail
      clear p3_0 p3_1 hW30
      refine (asS2 (complexTextS n0 _ xs0 w30 (now_ (own_reads Ox.out) (nxt (nxt (nxt (nxt (nxt (nxt (nxt (nxt (nxt (nxt (nxt (nxt (nxt (nxt (nxt (nxt (nxt (nxt (nxt (nxt (nxt (nxt (nxt (nxt (nxt (nxt (nxt (nxt B1.out B2.out) B3.out) B4.out) B5.out) B6.out) B7.out) B8.out) B9.out) B10.out) B11.out) B12.out) B13.out) B14.out) B15.out) B16.out) B17.out) B18.out) B19.out) B20.out) B21.out) B22.out) B23.out) B24.out) B25.out) B26.out) B27.out) B28.out) B29.out)) (by omega)) Htx.out).mono ?_
      rintro e w31 ⟨rfl, b31⟩
      have B30 := hide b31
      clear b31
      obtain ⟨p4_0, p4_1⟩ : AtC w31 w1.heap.size (.int .i64 n0) (.slice Ax xs0.length cx) := (AtC.to Tbx.out (nxt (nxt (nxt (nxt (nxt (nxt (nxt (nxt (nxt (nxt (nxt (nxt (nxt (nxt (nxt (nxt (nxt (nxt (nxt (nxt (nxt (nxt (nxt (nxt (nxt (nxt (nxt (nxt B2.out B3.out) B4.out) B5.out) B6.out) B7.out) B8.out) B9.out) B10.out) B11.out) B12.out) B13.out) B14.out) B15.out) B16.out) B17.out) B18.out) B19.out) B20.out) B21.out) B22.out) B23.out) B24.out) B25.out) B26.out) B27.out) B28.out) B29.out) B30.out))
      go_wp2_with fail
      clear p4_0 p4_1
      refine (asI (facesOfS n0 _ xs0 w31 (now_ (own_reads Ox.out) (nxt (nxt (nxt (nxt (nxt (nxt (nxt (nxt (nxt (nxt (nxt (nxt (nxt (nxt (nxt (nxt (nxt (nxt (nxt (nxt (nxt (nxt (nxt (nxt (nxt (nxt (nxt (nxt (nxt B1.out B2.out) B3.out) B4.out) B5.out) B6.out) B7.out) B8.out) B9.out) B10.out) B11.out) B12.out) B13.out) B14.out) B15.out) B16.out) B17.out) B18.out) B19.out) B20.out) B21.out) B22.out) B23.out) B24.out) B25.out) B26.out) B27.out) B28.out) B29.out) B30.out)) (by omega)) HyF.out).mono ?_
      rintro e w32 ⟨vG, rfl, oG, b32⟩
      have B31 := hide b32
      clear b32
      obtain ⟨AG, cG, rfl⟩ := own_shape oG
      have OG := hide oG
      clear oG
      go_wp2_with fail
      refine (sameInts_same _ _ yF w32 (now_ (own_reads OF.out) (nxt (nxt (nxt (nxt B27.out B28.out) B29.out) B30.out) B31.out)) (own_reads OG.out) (by omega)).mono ?_
      rintro e w33 ⟨rfl, b33⟩
      have B32 := hide b33
      clear b33
      obtain ⟨p5_0, p5_1⟩ : AtC w33 w1.heap.size (.int .i64 n0) (.slice Ax xs0.length cx) := (AtC.to Tbx.out (nxt (nxt (nxt (nxt (nxt (nxt (nxt (nxt (nxt (nxt (nxt (nxt (nxt (nxt (nxt (nxt (nxt (nxt (nxt (nxt (nxt (nxt (nxt (nxt (nxt (nxt (nxt (nxt (nxt (nxt B2.out B3.out) B4.out) B5.out) B6.out) B7.out) B8.out) B9.out) B10.out) B11.out) B12.out) B13.out) B14.out) B15.out) B16.out) B17.out) B18.out) B19.out) B20.out) B21.out) B22.out) B23.out) B24.out) B25.out) B26.out) B27.out) B28.out) B29.out) B30.out) B31.out) B32.out))
      go_wp2_with fail
      clear p5_0 p5_1
      refine (asRB (isComplexS n0 _ xs0 w33 (now_ (own_reads Ox.out) (nxt (nxt (nxt (nxt (nxt (nxt (nxt (nxt (nxt (nxt (nxt (nxt (nxt (nxt (nxt (nxt (nxt (nxt (nxt (nxt (nxt (nxt (nxt (nxt (nxt (nxt (nxt (nxt (nxt (nxt (nxt B1.out B2.out) B3.out) B4.out) B5.out) B6.out) B7.out) B8.out) B9.out) B10.out) B11.out) B12.out) B13.out) B14.out) B15.out) B16.out) B17.out) B18.out) B19.out) B20.out) B21.out) B22.out) B23.out) B24.out) B25.out) B26.out) B27.out) B28.out) B29.out) B30.out) B31.out) B32.out)) (by omega)) Hokc.out).mono ?_
      rintro e w34 ⟨rfl, b34⟩
      have B33 := hide b34
      clear b34
      go_wp2
      go_ret
      exact ⟨rfl, (nxt (nxt (nxt (nxt (nxt (nxt (nxt (nxt (nxt (nxt (nxt (nxt (nxt (nxt (nxt (nxt (nxt (nxt (nxt (nxt (nxt (nxt (nxt (nxt (nxt (nxt (nxt (nxt (nxt (nxt (nxt (nxt (nxt B0.out B1.out) B2.out) B3.out) B4.out) B5.out) B6.out) B7.out) B8.out) B9.out) B10.out) B11.out) B12.out) B13.out) B14.out) B15.out) B16.out) B17.out) B18.out) B19.out) B20.out) B21.out) B22.out) B23.out) B24.out) B25.out) B26.out) B27.out) B28.out) B29.out) B30.out) B31.out) B32.out) B33.out)⟩
    · skip
      have hpt := pcx_txt Hokc.out.symm
      rw [← Htx.out] at hpt
      have HN8b : Hid (N8 = n0) := HN8.out.trans hpt.2.1
      have Hy8b : Hid (y8 = xs0) := Hy8.out.trans hpt.2.2
      have hma := made_again Hokc.out
      rw [← HyF.out] at hma
      have Hma1 := hide hma.1
      have Hma2 := hide hma.2.1
      have Hma3 := hide hma.2.2
      clear hpt hma
      obtain ⟨p6_0, p6_1⟩ : AtC w30 w1.heap.size (.int .i64 n0) (.slice Ax xs0.length cx) := (AtC.to Tbx.out (nxt (nxt (nxt (nxt (nxt (nxt (nxt (nxt (nxt (nxt (nxt (nxt (nxt (nxt (nxt (nxt (nxt (nxt (nxt (nxt (nxt (nxt (nxt (nxt (nxt (nxt (nxt B2.out B3.out) B4.out) B5.out) B6.out) B7.out) B8.out) B9.out) B10.out) B11.out) B12.out) B13.out) B14.out) B15.out) B16.out) B17.out) B18.out) B19.out) B20.out) B21.out) B22.out) B23.out) B24.out) B25.out) B26.out) B27.out) B28.out) B29.out))
      go_wp2_with fail
      clear p6_0 p6_1 hW30
      refine (asS2 (complexTextS n0 _ xs0 w30 (now_ (own_reads Ox.out) (nxt (nxt (nxt (nxt (nxt (nxt (nxt (nxt (nxt (nxt (nxt (nxt (nxt (nxt (nxt (nxt (nxt (nxt (nxt (nxt (nxt (nxt (nxt (nxt (nxt (nxt (nxt (nxt B1.out B2.out) B3.out) B4.out) B5.out) B6.out) B7.out) B8.out) B9.out) B10.out) B11.out) B12.out) B13.out) B14.out) B15.out) B16.out) B17.out) B18.out) B19.out) B20.out) B21.out) B22.out) B23.out) B24.out) B25.out) B26.out) B27.out) B28.out) B29.out)) (by omega)) Htx.out).mono ?_
      rintro e w31 ⟨rfl, b31⟩
      have B30 := hide b31
      clear b31
      obtain ⟨p7_0, p7_1⟩ : AtC w31 w1.heap.size (.int .i64 n0) (.slice Ax xs0.length cx) := (AtC.to Tbx.out (nxt (nxt (nxt (nxt (nxt (nxt (nxt (nxt (nxt (nxt (nxt (nxt (nxt (nxt (nxt (nxt (nxt (nxt (nxt (nxt (nxt (nxt (nxt (nxt (nxt (nxt (nxt (nxt B2.out B3.out) B4.out) B5.out) B6.out) B7.out) B8.out) B9.out) B10.out) B11.out) B12.out) B13.out) B14.out) B15.out) B16.out) B17.out) B18.out) B19.out) B20.out) B21.out) B22.out) B23.out) B24.out) B25.out) B26.out) B27.out) B28.out) B29.out) B30.out))
      go_wp2_with fail
      clear p7_0 p7_1
      refine (asI (facesOfS n0 _ xs0 w31 (now_ (own_reads Ox.out) (nxt (nxt (nxt (nxt (nxt (nxt (nxt (nxt (nxt (nxt (nxt (nxt (nxt (nxt (nxt (nxt (nxt (nxt (nxt (nxt (nxt (nxt (nxt (nxt (nxt (nxt (nxt (nxt (nxt B1.out B2.out) B3.out) B4.out) B5.out) B6.out) B7.out) B8.out) B9.out) B10.out) B11.out) B12.out) B13.out) B14.out) B15.out) B16.out) B17.out) B18.out) B19.out) B20.out) B21.out) B22.out) B23.out) B24.out) B25.out) B26.out) B27.out) B28.out) B29.out) B30.out)) (by omega)) HyF.out).mono ?_
      rintro e w32 ⟨vG, rfl, oG, b32⟩
      have B31 := hide b32
      clear b32
      obtain ⟨AG, cG, rfl⟩ := own_shape oG
      have OG := hide oG
      clear oG
      go_wp2_with fail
      refine (sameInts_same _ _ yF w32 (now_ (own_reads OF.out) (nxt (nxt (nxt (nxt B27.out B28.out) B29.out) B30.out) B31.out)) (own_reads OG.out) (by omega)).mono ?_
      rintro e w33 ⟨rfl, b33⟩
      have B32 := hide b33
      clear b33
      obtain ⟨p8_0, p8_1⟩ : AtC w33 w1.heap.size (.int .i64 n0) (.slice Ax xs0.length cx) := (AtC.to Tbx.out (nxt (nxt (nxt (nxt (nxt (nxt (nxt (nxt (nxt (nxt (nxt (nxt (nxt (nxt (nxt (nxt (nxt (nxt (nxt (nxt (nxt (nxt (nxt (nxt (nxt (nxt (nxt (nxt (nxt (nxt B2.out B3.out) B4.out) B5.out) B6.out) B7.out) B8.out) B9.out) B10.out) B11.out) B12.out) B13.out) B14.out) B15.out) B16.out) B17.out) B18.out) B19.out) B20.out) B21.out) B22.out) B23.out) B24.out) B25.out) B26.out) B27.out) B28.out) B29.out) B30.out) B31.out) B32.out))
      go_wp2_with fail
      clear p8_0 p8_1
      refine (asRB (isComplexS n0 _ xs0 w33 (now_ (own_reads Ox.out) (nxt (nxt (nxt (nxt (nxt (nxt (nxt (nxt (nxt (nxt (nxt (nxt (nxt (nxt (nxt (nxt (nxt (nxt (nxt (nxt (nxt (nxt (nxt (nxt (nxt (nxt (nxt (nxt (nxt (nxt (nxt B1.out B2.out) B3.out) B4.out) B5.out) B6.out) B7.out) B8.out) B9.out) B10.out) B11.out) B12.out) B13.out) B14.out) B15.out) B16.out) B17.out) B18.out) B19.out) B20.out) B21.out) B22.out) B23.out) B24.out) B25.out) B26.out) B27.out) B28.out) B29.out) B30.out) B31.out) B32.out)) (by omega)) Hokc.out).mono ?_
      rintro e w34 ⟨rfl, b34⟩
      have B33 := hide b34
      clear b34
      obtain ⟨p9_0, p9_1⟩ : AtC w34 w29.heap.size (.int .i64 N8) (.slice Az y8.length cz) := (AtC.to Tbz.out (nxt (nxt (nxt B30.out B31.out) B32.out) B33.out))
      obtain ⟨p10_0, p10_1⟩ : AtC w34 w1.heap.size (.int .i64 n0) (.slice Ax xs0.length cx) := (AtC.to Tbx.out (nxt (nxt (nxt (nxt (nxt (nxt (nxt (nxt (nxt (nxt (nxt (nxt (nxt (nxt (nxt (nxt (nxt (nxt (nxt (nxt (nxt (nxt (nxt (nxt (nxt (nxt (nxt (nxt (nxt (nxt (nxt B2.out B3.out) B4.out) B5.out) B6.out) B7.out) B8.out) B9.out) B10.out) B11.out) B12.out) B13.out) B14.out) B15.out) B16.out) B17.out) B18.out) B19.out) B20.out) B21.out) B22.out) B23.out) B24.out) B25.out) B26.out) B27.out) B28.out) B29.out) B30.out) B31.out) B32.out) B33.out))
      go_wp2_with fail
      clear p9_0 p9_1 p10_0 p10_1
      refine (sameComplex_is HN8b.out Hy8b.out _ _ w34 (now_ (own_reads Oz.out) (nxt (nxt (nxt (nxt B29.out B30.out) B31.out) B32.out) B33.out)) (now_ (own_reads Ox.out) (nxt (nxt (nxt (nxt (nxt (nxt (nxt (nxt (nxt (nxt (nxt (nxt (nxt (nxt (nxt (nxt (nxt (nxt (nxt (nxt (nxt (nxt (nxt (nxt (nxt (nxt (nxt (nxt (nxt (nxt (nxt (nxt B1.out B2.out) B3.out) B4.out) B5.out) B6.out) B7.out) B8.out) B9.out) B10.out) B11.out) B12.out) B13.out) B14.out) B15.out) B16.out) B17.out) B18.out) B19.out) B20.out) B21.out) B22.out) B23.out) B24.out) B25.out) B26.out) B27.out) B28.out) B29.out) B30.out) B31.out) B32.out) B33.out)) (by omega)).mono ?_
      rintro e w35 ⟨rfl, b35⟩
      have B34 := hide b35
      clear b35
      obtain ⟨p11_0, p11_1⟩ : AtC w35 w1.heap.size (.int .i64 n0) (.slice Ax xs0.length cx) := (AtC.to Tbx.out (nxt (nxt (nxt (nxt (nxt (nxt (nxt (nxt (nxt (nxt (nxt (nxt (nxt (nxt (nxt (nxt (nxt (nxt (nxt (nxt (nxt (nxt (nxt (nxt (nxt (nxt (nxt (nxt (nxt (nxt (nxt (nxt B2.out B3.out) B4.out) B5.out) B6.out) B7.out) B8.out) B9.out) B10.out) B11.out) B12.out) B13.out) B14.out) B15.out) B16.out) B17.out) B18.out) B19.out) B20.out) B21.out) B22.out) B23.out) B24.out) B25.out) B26.out) B27.out) B28.out) B29.out) B30.out) B31.out) B32.out) B33.out) B34.out))
      go_wp2_with fail
      clear p11_0 p11_1
      refine (asCB2 (makeComplexI n0 _ yF w35 (now_ (own_reads OF.out) (nxt (nxt (nxt (nxt (nxt (nxt (nxt B27.out B28.out) B29.out) B30.out) B31.out) B32.out) B33.out) B34.out)) (by omega)) Hma1.out Hma2.out Hma3.out).mono ?_
      rintro e w36 ⟨vh, rfl, oh, b36⟩
      have B35 := hide b36
      clear b36
      obtain ⟨Ah, ch, rfl⟩ := own_shape oh
      have Oh := hide oh
      clear oh
      obtain ⟨w37, hW37, atbh2, b37, z37⟩ := boxC w36 (.int .i64 n0) (.slice Ah xs0.length ch) 26
      have Tbh2 := hide atbh2
      clear atbh2 z37
      have B36 := hide b37
      clear b37
      obtain ⟨p12_0, p12_1⟩ : AtC w37 w36.heap.size (.int .i64 n0) (.slice Ah xs0.length ch) := Tbh2.out
      obtain ⟨p13_0, p13_1⟩ : AtC w37 w1.heap.size (.int .i64 n0) (.slice Ax xs0.length cx) := (AtC.to Tbx.out (nxt (nxt (nxt (nxt (nxt (nxt (nxt (nxt (nxt (nxt (nxt (nxt (nxt (nxt (nxt (nxt (nxt (nxt (nxt (nxt (nxt (nxt (nxt (nxt (nxt (nxt (nxt (nxt (nxt (nxt (nxt (nxt (nxt (nxt B2.out B3.out) B4.out) B5.out) B6.out) B7.out) B8.out) B9.out) B10.out) B11.out) B12.out) B13.out) B14.out) B15.out) B16.out) B17.out) B18.out) B19.out) B20.out) B21.out) B22.out) B23.out) B24.out) B25.out) B26.out) B27.out) B28.out) B29.out) B30.out) B31.out) B32.out) B33.out) B34.out) B35.out) B36.out))
      go_wp2_with fail
      clear p12_0 p12_1 p13_0 p13_1 hW37
      refine (sameComplex_same n0 _ _ xs0 w37 (now_ (own_reads Oh.out) B36.out) (now_ (own_reads Ox.out) (nxt (nxt (nxt (nxt (nxt (nxt (nxt (nxt (nxt (nxt (nxt (nxt (nxt (nxt (nxt (nxt (nxt (nxt (nxt (nxt (nxt (nxt (nxt (nxt (nxt (nxt (nxt (nxt (nxt (nxt (nxt (nxt (nxt (nxt (nxt B1.out B2.out) B3.out) B4.out) B5.out) B6.out) B7.out) B8.out) B9.out) B10.out) B11.out) B12.out) B13.out) B14.out) B15.out) B16.out) B17.out) B18.out) B19.out) B20.out) B21.out) B22.out) B23.out) B24.out) B25.out) B26.out) B27.out) B28.out) B29.out) B30.out) B31.out) B32.out) B33.out) B34.out) B35.out) B36.out)) (by omega)).mono ?_
      rintro e w38 ⟨rfl, b38⟩
      have B37 := hide b38
      clear b38
      go_wp2
      go_ret
      exact ⟨rfl, (nxt (nxt (nxt (nxt (nxt (nxt (nxt (nxt (nxt (nxt (nxt (nxt (nxt (nxt (nxt (nxt (nxt (nxt (nxt (nxt (nxt (nxt (nxt (nxt (nxt (nxt (nxt (nxt (nxt (nxt (nxt (nxt (nxt (nxt (nxt (nxt (nxt B0.out B1.out) B2.out) B3.out) B4.out) B5.out) B6.out) B7.out) B8.out) B9.out) B10.out) B11.out) B12.out) B13.out) B14.out) B15.out) B16.out) B17.out) B18.out) B19.out) B20.out) B21.out) B22.out) B23.out) B24.out) B25.out) B26.out) B27.out) B28.out) B29.out) B30.out) B31.out) B32.out) B33.out) B34.out) B35.out) B36.out) B37.out)⟩

set_option maxRecDepth 100000 in
theorem lifted_FnComplexes (os : Os) (started : os.Started) (H : Type) (enc : TypeId × Value → H) :
    ReturnsInHanded {} Tryz.checked os 3 .any (fun w args => (Rows.fnComplexesSpec.pre enc Tryz.prog Tryz.f3 [] false w args ∧ laidMetH Tryz.prog laidL w) ∧ sizedMet enc Tryz.prog Tryz.f3 (OpenSpec.ofChange Rows.fnComplexesSpec) false w args) (Rows.fnComplexesSpec.post enc Tryz.prog Tryz.f3 false true false false) := by
  refine returnsInHanded_of_change_and (C := Tryz.checked) (X := fun w _ => laidMetH Tryz.prog laidL w) (fun _ _ _ hh h => h.of_heap hh) own started (by kernel_rfl) Tryz.func3
    (ChangeSpec.witness_shaped (enc := enc) (C := Tryz.checked) (os := os) (X := fun w _ => laidMetH Tryz.prog laidL w) false (World.doorLaid Tryz.prog 24 os) #[.slice none 0 0] 8 rfl (World.shaped_of_RefB (by kernel_rfl) (by kernel_rfl)) (by kernel_rfl) (by kernel_rfl) (by kernel_rfl) (door_met os _)) ?_
  intro W base args ds gs before hval0 hW _ _ hL _
  have hval : ∀ (j : Nat) t v, Tryz.f3.params[j]? = some t → args[j]? = some v → Value.okWide Tryz.prog W .any base t v := hval0
  have hW' := hW
  obtain ⟨p, q, hA0, hV, rfl, hfz, hnd⟩ := hW
  have hA : DataW.TrodAll enc Tryz.prog W 0 (fun _ => true) true Tryz.f3.params.toList args.toList ds p := hA0
  rw [Tryz.params3] at hA hval
  have hB := fun W' => back_all (enc := enc) (W' := W') laidOut _ _ _ _ (show AllR Tryz.prog [22] from ⟨⟨by kernel_rfl, of_decide_eq_true (by kernel_rfl)⟩, trivial⟩) hA
  obtain ⟨v0, vs0, d0, ds0, p0, q0, hargs, rfl, rfl, h0, r0⟩ := trodAll_cons hA
  obtain ⟨rfl, rfl, rfl⟩ := trodAll_nil r0
  obtain rfl : args = #[v0] := by cases args; simp_all
  obtain ⟨rfl, rfl⟩ := trodVars_none hV
  obtain ⟨ls0, rd0, bl0⟩ := openBytes Tryz.underlying22 Tryz.underlying5 (by kernel_rfl) h0 (okWide_slice Tryz.underlying22 (hval 0 22 v0 rfl rfl))
  clear hA0 hval0
  refine (walk_FnComplexes W (tab_of hL) v0 ls0 rd0 bl0).mono fun e W' ⟨he, bel⟩ => ?_
  subst he
  exact ⟨_, rfl, _, _, _, [], _, [], hW', trodAll_mk1 (shut_bool Tryz.underlying4 _), hB W' bel, rfl, bel.frame _, fun h => by cases h⟩

theorem FnComplexes_row : Rows.FnComplexesSaid :=
  OpenClaim.holds_of_wide 3 Tryz.f3 rfl rfl rfl rfl rfl rfl rfl ⟨rfl, rfl, rfl, rfl, rfl⟩ rfl rfl rfl rfl rfl (by kernel_rfl) Tryz.func3 (by kernel_rfl)
    (of_decide_eq_true (by kernel_rfl)) (by unfold Func.isWrapper; first | (rw [if_pos (by decide +kernel)]; kernel_rfl) | (rw [if_neg (by decide +kernel)]; exact ⟨rfl, rfl⟩))
    (fun os started H enc _ => lifted_FnComplexes os started H enc)

theorem FnComplexes_holds : Rows.FnComplexesCardSaid :=
  Claim7.holds_tied_plain_at .later [] [.data, .data, .data] true Rows.fnComplexesCard.stood.harness false
    FnComplexes_row (fun _ h => by cases h) (by kernel_rfl) (fun _ h => by cases h) fnComplexes_row_tie rfl ⟨rfl, rfl⟩ (by kernel_rfl) rfl
    (fun f fn hf hfn => by
      obtain rfl : f = 3 := Option.some.inj ((show Tryz.prog.funcNamed "loop.example/g03100/laws.FnComplexes" = some 3 by kernel_rfl).symm.trans hf) |>.symm
      obtain rfl : fn = Tryz.f3 := (Option.some.inj (Tryz.func3.symm.trans hfn)).symm
      exact ⟨by kernel_rfl, fun j t ht => by
        rw [Tryz.params3] at ht
        have hm : t ∈ [22] := by simpa using Array.mem_of_getElem? ht
        have hall : ([22].all fun u => !Tryz.prog.wantsStandIn u) = true := by kernel_rfl
        exact (show Tryz.prog.wantsStandIn t = false by simpa using List.all_eq_true.1 hall t hm)⟩)
    (by kernel_rfl)
end Go.Proofs.YtmkacjpjcfffmabGreatDoor
