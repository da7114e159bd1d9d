/- The law FnCounts. No condition. -/
import Derived.Deep.DeepCutAuto
import Derived.Deep.RegionHeld3
import Derived.Test.YtmkacjpjcfffmaaP8
import Derived.Test.YtmkacjpjcfffmaaP12
import Derived.Test.YtmkacjpjcfffmaaP13
import Derived.Test.YtmkacjpjcfffmaaP14
namespace Go.Proofs.Ytmkacjpjcfffmaa
open Go.ChangeShapes Go.WideShapes Go.ChangeAt Go.RowKit
open Go.ChangeMaps (open_string shut_string)
set_option linter.unusedVariables false

set_option maxHeartbeats 40000000 in
set_option maxRecDepth 100000 in
theorem walk_FnCounts (w : World) (v0 : Value) (ls0 : List UInt8) (rd0 : BytesAt w w.heap.size v0 ls0) (bl0 : ls0.length ≤ 9223372036854775807) : Calls Try.prog 9 #[v0] w fun e w' => RetB w true e w' := by
  have Rd0 := hide rd0
  obtain ⟨A0, k0, hv0, hk0, hrest⟩ := rd0
  have hl0 : (bytesV ls0).length = ls0.length := List.length_map _
  rw [hl0] at hv0
  subst hv0
  clear hrest hk0 hl0
  by_cases hgd : (1048576 : Int) < (ls0.length : Int)
  · have hd := hide (decide_eq_true hgd)
    clear hgd
    go_enter Try.func9, Try.ntmps9
    go_wp2_with fail
    refine (bigS _ ls0 w Rd0.out).mono ?_
    rw [hd.out]
    rintro e w' ⟨rfl, rfl⟩
    go_wp2
    go_ret
    exact ⟨rfl, Below.refl _ _⟩
  have hd := hide (decide_eq_false hgd)
  have hgd2 : ls0.length ≤ 1048576 := by omega
  clear hgd
  go_enter Try.func9, Try.ntmps9
  go_wp2_with fail
  refine (bigS _ ls0 w Rd0.out).mono ?_
  rw [hd.out]
  rintro e w' ⟨rfl, rfl⟩
  have c_0 : Hid (Below w.heap.size w w) := Below.refl _ _
  go_wp2_with fail
  refine (drawFaceCountsS _ ls0 w (nowB_ Rd0.out c_0.out) (by omega)).mono ?_
  rintro e w1 ⟨n0, vxc, xs0, hf0, rfl, oxc, b1⟩
  have c_1 : Hid (Below w.heap.size w w1) := b1
  clear c_0
  obtain ⟨Axc, cxc, rfl⟩ := own_shape oxc
  have xc_1 : Hid (OwnV 3 w1 w.heap.size (.slice Axc xs0.length cxc) (ints xs0)) := oxc
  clear oxc b1
  have hl0 : xs0.length ≤ 1000 := hf0.2.2.1
  have Hf0 := hide hf0
  clear hf0
  obtain ⟨w2, hW2, atbc, b2, z2⟩ := boxC w1 (.int .i64 n0) (.slice Axc xs0.length cxc) 42
  have c_2 : Hid (Below w.heap.size w w2) := nxt c_1.out b2
  have xc_2 : Hid (OwnV 3 w2 w.heap.size (.slice Axc xs0.length cxc) (ints xs0)) := own_below xc_1.out b2
  clear c_1 xc_1
  have bc_2 : Hid (AtC w2 w1.heap.size (.int .i64 n0) (.slice Axc xs0.length cxc)) := atbc
  obtain ⟨vbc_2_0, vbc_2_1⟩ := bc_2.out
  clear atbc b2
  obtain ⟨yF, hyF⟩ : ∃ y, y = faceCounts n0 xs0 := ⟨_, rfl⟩
  have HyF := hide hyF
  clear hyF
  have hyl : yF.length ≤ 7 := by rw [HyF.out]; exact (counts_len n0 xs0).1
  go_wp2_with fail
  clear hW2
  refine (asI (faceCountsI n0 _ xs0 w2 (own_reads xc_2.out) (by omega)) HyF.out).mono ?_
  rintro e w3 ⟨vF, rfl, oF, b3⟩
  clear vbc_2_0 vbc_2_1
  have c_3 : Hid (Below w.heap.size w w3) := nxt c_2.out b3
  have xc_3 : Hid (OwnV 3 w3 w.heap.size (.slice Axc xs0.length cxc) (ints xs0)) := own_below xc_2.out b3
  have bc_3 : Hid (AtC w3 w1.heap.size (.int .i64 n0) (.slice Axc xs0.length cxc)) := AtC.to bc_2.out b3
  clear c_2 xc_2 bc_2
  obtain ⟨vbc_3_0, vbc_3_1⟩ := bc_3.out
  obtain ⟨AF, cF, rfl⟩ := own_shape oF
  have F_3 : Hid (OwnV 3 w3 w2.heap.size (.slice AF yF.length cF) (ints yF)) := oF
  clear oF b3
  go_wp2_with fail
  refine (drawFacesOfSizeS _ ls0 w3 (nowB_ Rd0.out c_3.out) (by omega)).mono ?_
  rintro e w4 ⟨n1, vxd, xs1, t1, hf1, ht1, ht1b, rfl, oxd, b4⟩
  clear vbc_3_0 vbc_3_1
  have c_4 : Hid (Below w.heap.size w w4) := nxt c_3.out b4
  have xc_4 : Hid (OwnV 3 w4 w.heap.size (.slice Axc xs0.length cxc) (ints xs0)) := own_below xc_3.out b4
  have bc_4 : Hid (AtC w4 w1.heap.size (.int .i64 n0) (.slice Axc xs0.length cxc)) := AtC.to bc_3.out b4
  have F_4 : Hid (OwnV 3 w4 w2.heap.size (.slice AF yF.length cF) (ints yF)) := own_below F_3.out b4
  clear c_3 xc_3 bc_3 F_3
  obtain ⟨vbc_4_0, vbc_4_1⟩ := bc_4.out
  obtain ⟨Axd, cxd, rfl⟩ := own_shape oxd
  have xd_4 : Hid (OwnV 3 w4 w3.heap.size (.slice Axd xs1.length cxd) (ints xs1)) := oxd
  clear oxd b4
  have hl1 : xs1.length ≤ 1000 := hf1.2.2.1
  clear hf1
  obtain ⟨w5, hW5, atbd, b5, z5⟩ := boxC w4 (.int .i64 n1) (.slice Axd xs1.length cxd) 42
  have c_5 : Hid (Below w.heap.size w w5) := nxt c_4.out b5
  have xc_5 : Hid (OwnV 3 w5 w.heap.size (.slice Axc xs0.length cxc) (ints xs0)) := own_below xc_4.out b5
  have bc_5 : Hid (AtC w5 w1.heap.size (.int .i64 n0) (.slice Axc xs0.length cxc)) := AtC.to bc_4.out b5
  have F_5 : Hid (OwnV 3 w5 w2.heap.size (.slice AF yF.length cF) (ints yF)) := own_below F_4.out b5
  have xd_5 : Hid (OwnV 3 w5 w3.heap.size (.slice Axd xs1.length cxd) (ints xs1)) := own_below xd_4.out b5
  clear c_4 xc_4 bc_4 F_4 xd_4
  obtain ⟨vbc_5_0, vbc_5_1⟩ := bc_5.out
  have bd_5 : Hid (AtC w5 w4.heap.size (.int .i64 n1) (.slice Axd xs1.length cxd)) := atbd
  obtain ⟨vbd_5_0, vbd_5_1⟩ := bd_5.out
  clear atbd b5
  go_wp2_with fail
  clear vbc_4_0 vbc_4_1 hW5
  refine (drawDegreeOfS _ ls0 w5 (nowB_ Rd0.out c_5.out) (by omega)).mono ?_
  rintro e w6 ⟨n2, vxe, xs2, t2, hf2, ht2, ht2b, rfl, oxe, b6⟩
  clear vbc_5_0 vbc_5_1 vbd_5_0 vbd_5_1
  have c_6 : Hid (Below w.heap.size w w6) := nxt c_5.out b6
  have xc_6 : Hid (OwnV 3 w6 w.heap.size (.slice Axc xs0.length cxc) (ints xs0)) := own_below xc_5.out b6
  have bc_6 : Hid (AtC w6 w1.heap.size (.int .i64 n0) (.slice Axc xs0.length cxc)) := AtC.to bc_5.out b6
  have F_6 : Hid (OwnV 3 w6 w2.heap.size (.slice AF yF.length cF) (ints yF)) := own_below F_5.out b6
  have xd_6 : Hid (OwnV 3 w6 w3.heap.size (.slice Axd xs1.length cxd) (ints xs1)) := own_below xd_5.out b6
  have bd_6 : Hid (AtC w6 w4.heap.size (.int .i64 n1) (.slice Axd xs1.length cxd)) := AtC.to bd_5.out b6
  clear c_5 xc_5 bc_5 F_5 xd_5 bd_5
  obtain ⟨vbc_6_0, vbc_6_1⟩ := bc_6.out
  obtain ⟨vbd_6_0, vbd_6_1⟩ := bd_6.out
  obtain ⟨Axe, cxe, rfl⟩ := own_shape oxe
  have xe_6 : Hid (OwnV 3 w6 w5.heap.size (.slice Axe xs2.length cxe) (ints xs2)) := oxe
  clear oxe b6
  have hl2 : xs2.length ≤ 1000 := hf2.2.2.1
  clear hf2
  obtain ⟨w7, hW7, atbe, b7, z7⟩ := boxC w6 (.int .i64 n2) (.slice Axe xs2.length cxe) 42
  have c_7 : Hid (Below w.heap.size w w7) := nxt c_6.out b7
  have xc_7 : Hid (OwnV 3 w7 w.heap.size (.slice Axc xs0.length cxc) (ints xs0)) := own_below xc_6.out b7
  have bc_7 : Hid (AtC w7 w1.heap.size (.int .i64 n0) (.slice Axc xs0.length cxc)) := AtC.to bc_6.out b7
  have F_7 : Hid (OwnV 3 w7 w2.heap.size (.slice AF yF.length cF) (ints yF)) := own_below F_6.out b7
  have xd_7 : Hid (OwnV 3 w7 w3.heap.size (.slice Axd xs1.length cxd) (ints xs1)) := own_below xd_6.out b7
  have bd_7 : Hid (AtC w7 w4.heap.size (.int .i64 n1) (.slice Axd xs1.length cxd)) := AtC.to bd_6.out b7
  have xe_7 : Hid (OwnV 3 w7 w5.heap.size (.slice Axe xs2.length cxe) (ints xs2)) := own_below xe_6.out b7
  clear c_6 xc_6 bc_6 F_6 xd_6 bd_6 xe_6
  obtain ⟨vbc_7_0, vbc_7_1⟩ := bc_7.out
  obtain ⟨vbd_7_0, vbd_7_1⟩ := bd_7.out
  have be_7 : Hid (AtC w7 w6.heap.size (.int .i64 n2) (.slice Axe xs2.length cxe)) := atbe
  obtain ⟨vbe_7_0, vbe_7_1⟩ := be_7.out
  clear atbe b7
  obtain ⟨yD, hyD⟩ : ∃ y, y = zs (facesOfSize n1 xs1 t1) := ⟨_, rfl⟩
  have HyD := hide hyD
  clear hyD
  have hyd : yD.length ≤ 1073741824 := by rw [HyD.out, zsl]; have := facesOfSize_len n1 xs1 t1; omega
  go_upto_region 7 with fail
  clear vbc_6_0 vbc_6_1 vbd_6_0 vbd_6_1 hW7
  go_cut [84] (fun s84 wx => s84 = .bool false ∧ Hid (Below w7.heap.size w7 wx))
  case first =>
    have hS8 : Hid (∀ X : World, Below w7.heap.size w7 X → ((X.cell? ⟨w1.heap.size, 0, none⟩ = some (.int .i64 n0) ∧ X.cell? ⟨w1.heap.size, 1, none⟩ = some (.slice Axc xs0.length cxc)) ∧ (X.cell? ⟨w4.heap.size, 0, none⟩ = some (.int .i64 n1) ∧ X.cell? ⟨w4.heap.size, 1, none⟩ = some (.slice Axd xs1.length cxd)) ∧ (X.cell? ⟨w6.heap.size, 0, none⟩ = some (.int .i64 n2) ∧ X.cell? ⟨w6.heap.size, 1, none⟩ = some (.slice Axe xs2.length cxe)) ∧ Hid (Below w7.heap.size w7 X))) := fun X h => ⟨AtC.to bc_7.out h, AtC.to bd_7.out h, AtC.to be_7.out h, h⟩
    have hb0_8 : Below w7.heap.size w7 w7.drew := (Below.refl _ _).drew
    have rqxc := hide (own_reads xc_7.out)
    have rqF := hide (own_reads F_7.out)
    have rqxd := hide (own_reads xd_7.out)
    have rqxe := hide (own_reads xe_7.out)
    have Hpb : Hid (∀ x ∈ xs0, x ≤ 9223372036854775807) := fun x hx => by have := Hf0.out.2.2.2 x hx; omega
    clear vbc_7_0 vbc_7_1 vbd_7_0 vbd_7_1 vbe_7_0 vbe_7_1
    go_region_held3 (fun X => ((X.cell? ⟨w1.heap.size, 0, none⟩ = some (.int .i64 n0) ∧ X.cell? ⟨w1.heap.size, 1, none⟩ = some (.slice Axc xs0.length cxc)) ∧ (X.cell? ⟨w4.heap.size, 0, none⟩ = some (.int .i64 n1) ∧ X.cell? ⟨w4.heap.size, 1, none⟩ = some (.slice Axd xs1.length cxd)) ∧ (X.cell? ⟨w6.heap.size, 0, none⟩ = some (.int .i64 n2) ∧ X.cell? ⟨w6.heap.size, 1, none⟩ = some (.slice Axe xs2.length cxe)) ∧ Hid (Below w7.heap.size w7 X))) (first | with_reducible exact hS8.out _ (by assumption) | go_keep) (first | (go_at_call 39; rename_i hSx _ _; refine (asI (faceCountsS n0 _ xs0 _ (now_ rqxc.out hSx.2.2.2) (by omega)) HyF.out).mono ?_; rintro e wq ⟨v28, rfl, o28, bq⟩; obtain ⟨A28, c28, rfl⟩ := own_shape o28; have hbx8 := nxt hSx.2.2.2 bq) | (go_at_call 38; rename_i hSx _ _; (first | (go_fit (sameInts_same _ _ yF _ (now_ rqF.out hSx.2.2.2) (own_reads o28) (by omega))) | (go_fit (sameInts_same _ _ yD _ (own_reads o55b) (own_reads o58) (by omega)))); rintro e wq ⟨rfl, bq⟩; have hbx8 := nxt hSx.2.2.2 bq) | (go_at_call 46; rename_i hSx _ _; refine (asI (facesOfSizeI n1 _ xs1 t1 _ (now_ rqxd.out hSx.2.2.2) (by omega)) HyD.out).mono ?_; rintro e wq ⟨v55, rfl, o55, bq⟩; obtain ⟨A55, c55, rfl⟩ := own_shape o55; have hbx8 := nxt hSx.2.2.2 bq) | (go_at_call 47; rename_i hSx _ _; refine (asI (facesOfSizeS n1 _ xs1 t1 _ (now_ rqxd.out hSx.2.2.2) (by omega)) HyD.out).mono ?_; rintro e wq ⟨v58, rfl, o58, bq⟩; have o55b := own_below o55 bq; obtain ⟨A58, c58, rfl⟩ := own_shape o58; have hbx8 := nxt hSx.2.2.2 bq) | (go_at_call 40; rename_i hSx _ _; refine (dimOfI n0 _ xs0 _ (now_ rqxc.out hSx.2.2.2) (by omega)).mono ?_; rintro e wq ⟨rfl, bq⟩; have hbx8 := nxt hSx.2.2.2 bq) | (go_at_call 41; rename_i hSx _ _; refine (dimOfS n0 _ xs0 _ (now_ rqxc.out hSx.2.2.2) (by omega)).mono ?_; rintro e wq ⟨rfl, bq⟩; have hbx8 := nxt hSx.2.2.2 bq) | (go_at_call 42; rename_i hSx _ _; refine (eulerOfI n0 _ xs0 _ (now_ rqxc.out hSx.2.2.2) (by omega)).mono ?_; rintro e wq ⟨rfl, bq⟩; have hbx8 := nxt hSx.2.2.2 bq) | (go_at_call 43; rename_i hSx _ _; refine (eulerOfS n0 _ xs0 _ (now_ rqxc.out hSx.2.2.2) (by omega)).mono ?_; rintro e wq ⟨rfl, bq⟩; have hbx8 := nxt hSx.2.2.2 bq) | (go_at_call 48; rename_i hSx _ _; refine (usedPointsI n0 _ xs0 _ (now_ rqxc.out hSx.2.2.2) (by omega)).mono ?_; rintro e wq ⟨rfl, bq⟩; have hbx8 := nxt hSx.2.2.2 bq) | (go_at_call 49; rename_i hSx _ _; refine (usedPointsS n0 _ xs0 _ (now_ rqxc.out hSx.2.2.2) (by omega)).mono ?_; rintro e wq ⟨rfl, bq⟩; have hbx8 := nxt hSx.2.2.2 bq) | (go_at_call 50; rename_i hSx _ _; refine (isSimplexI n0 _ xs0 _ (now_ rqxc.out hSx.2.2.2) (by omega)).mono ?_; rintro e wq ⟨rfl, bq⟩; have hbx8 := nxt hSx.2.2.2 bq) | (go_at_call 51; rename_i hSx _ _; refine (isSimplexS n0 _ xs0 _ (now_ rqxc.out hSx.2.2.2) (by omega)).mono ?_; rintro e wq ⟨rfl, bq⟩; have hbx8 := nxt hSx.2.2.2 bq) | (go_at_call 44; rename_i hSx _ _; refine (isPureI n0 _ xs0 _ (now_ rqxc.out hSx.2.2.2) (by omega)).mono ?_; rintro e wq ⟨rfl, bq⟩; have hbx8 := nxt hSx.2.2.2 bq) | (go_at_call 45; rename_i hSx _ _; refine (isPureS n0 _ xs0 _ (now_ rqxc.out hSx.2.2.2) (by omega) Hpb.out).mono ?_; rintro e wq ⟨rfl, bq⟩; have hbx8 := nxt hSx.2.2.2 bq) | (go_at_call 52; rename_i hSx _ _; refine (degreeOfI n2 _ xs2 t2 _ (now_ rqxe.out hSx.2.2.2) (by omega)).mono ?_; rintro e wq ⟨rfl, bq⟩; have hbx8 := nxt hSx.2.2.2 bq) | (go_at_call 53; rename_i hSx _ _; refine (degreeOfS n2 _ xs2 t2 _ (now_ rqxe.out hSx.2.2.2) (by omega)).mono ?_; rintro e wq ⟨rfl, bq⟩; have hbx8 := nxt hSx.2.2.2 bq))
    all_goals (
      go_wp2_with fail
      go_meet
      exact ⟨rfl, hbx8⟩)
  case rest =>
    obtain ⟨rfl, hC⟩ := hcut
    generalize hwc : wc = w8 at hC ⊢
    clear hwc
    have b8 := hC.out
    clear hC
    clear vbc_7_0 vbc_7_1 vbd_7_0 vbd_7_1 vbe_7_0 vbe_7_1
    have c_8 : Hid (Below w.heap.size w w8) := nxt c_7.out b8
    have xc_8 : Hid (OwnV 3 w8 w.heap.size (.slice Axc xs0.length cxc) (ints xs0)) := own_below xc_7.out b8
    have bc_8 : Hid (AtC w8 w1.heap.size (.int .i64 n0) (.slice Axc xs0.length cxc)) := AtC.to bc_7.out b8
    have F_8 : Hid (OwnV 3 w8 w2.heap.size (.slice AF yF.length cF) (ints yF)) := own_below F_7.out b8
    have xd_8 : Hid (OwnV 3 w8 w3.heap.size (.slice Axd xs1.length cxd) (ints xs1)) := own_below xd_7.out b8
    have bd_8 : Hid (AtC w8 w4.heap.size (.int .i64 n1) (.slice Axd xs1.length cxd)) := AtC.to bd_7.out b8
    have xe_8 : Hid (OwnV 3 w8 w5.heap.size (.slice Axe xs2.length cxe) (ints xs2)) := own_below xe_7.out b8
    have be_8 : Hid (AtC w8 w6.heap.size (.int .i64 n2) (.slice Axe xs2.length cxe)) := AtC.to be_7.out b8
    clear c_7 xc_7 bc_7 F_7 xd_7 bd_7 xe_7 be_7
    obtain ⟨vbc_8_0, vbc_8_1⟩ := bc_8.out
    obtain ⟨vbd_8_0, vbd_8_1⟩ := bd_8.out
    obtain ⟨vbe_8_0, vbe_8_1⟩ := be_8.out
    clear b8
    clear xd_8 xe_8
    have HFr := hide (own_reads F_8.out)
    have HXr := hide (own_reads xc_8.out)
    have HBc := bc_8
    obtain ⟨AF2, cF2, hvF, _, heF⟩ := form_ HFr.out
    cases hvF
    have HeF := hide heF
    clear heF
    clear vbc_8_0 vbc_8_1 vbd_8_0 vbd_8_1 vbe_8_0 vbe_8_1
    go_wp2_with fail
    go_loopw [9] (fun i wr => ∃ k : Nat, k ≤ yF.length ∧ i = .int .i64 k ∧ Hid (Below w8.heap.size w8 wr)) (fun i _ => yF.length - (intOf i).toNat)
    case atStart => exact ⟨0, by omega, rfl, Below.refl _ _⟩
    case round =>
      obtain ⟨k, hk, rfl, hbr⟩ := hrel
      by_cases hlt : k < yF.length
      · obtain ⟨b, o, x, hA, hb, hx, hcell⟩ := HeF.out k hlt
        cases hA
        have hcg := counts_get (n := n0) (xs := xs0) (k := k) (x := x) (by rw [← HyF.out]; exact hx)
        obtain ⟨yS, hyS⟩ : ∃ y, y = zs (facesOfSize n0 xs0 (k : Int)) := ⟨_, rfl⟩
        have hxe : x = (yS.length : Int) := by rw [hyS, zsl]; exact hcg.1
        subst hxe
        have HyS := hide hyS
        have hyb : yS.length ≤ 64 := by have := hcg.2.2; omega
        clear hyS hcg hx
        have hcellr : wr.cell? ⟨b, o + k, none⟩ = some (.int .i64 (yS.length : Int)) := (hbr.out.cell (p := ⟨b, o + k, none⟩) hb).trans hcell
        clear hcell
        have hbw : b < wr.heap.size := World.block_lt_of_cell? _ _ hcellr
        have hBc2 := (AtC.to HBc.out hbr.out)
        have hSr : Hid (∀ X : World, Below wr.heap.size wr X → ((X.cell? ⟨w1.heap.size, 0, none⟩ = some (.int .i64 n0) ∧ X.cell? ⟨w1.heap.size, 1, none⟩ = some (.slice Axc xs0.length cxc)) ∧ X.cell? ⟨b, o + k, none⟩ = some (.int .i64 (yS.length : Int)) ∧ Hid (Below wr.heap.size wr X))) := fun X h => ⟨AtC.to hBc2 h, (h.cell (p := ⟨b, o + k, none⟩) hbw).trans hcellr, h⟩
        have rqr := hide (now_ HXr.out hbr.out)
        have hb0r : Below wr.heap.size wr wr.drew := (Below.refl _ _).drew
        have hne : ((yS.length : Int) != (yS.length : Int)) = false := by simp
        clear hcellr hBc2 hbw hb
        go_wp2_with fail
        go_region_held3 (fun X => ((X.cell? ⟨w1.heap.size, 0, none⟩ = some (.int .i64 n0) ∧ X.cell? ⟨w1.heap.size, 1, none⟩ = some (.slice Axc xs0.length cxc)) ∧ X.cell? ⟨b, o + k, none⟩ = some (.int .i64 (yS.length : Int)) ∧ Hid (Below wr.heap.size wr X))) (first | with_reducible exact hSr.out _ (by assumption) | go_keep) ((go_at_call 46; rename_i hSx _ _; refine (asI (facesOfSizeI n0 _ xs0 (k : Int) _ (now_ rqr.out hSx.2.2) (by omega)) HyS.out).mono ?_; rintro e wq ⟨vq, rfl, oq, bq⟩; obtain ⟨Aq, cq, rfl⟩ := own_shape oq; have hbxr := nxt hSx.2.2 bq))
        all_goals (
          have hbz := hide (nxt hbr.out hbxr)
          go_wp2
          go_roundw
          case rel => exact ⟨k + 1, by omega, by go_num, hbz⟩
          case measure => simp [intOf]; omega)
      · have hk2 : yF.length ≤ k := by omega
        have hcl := counts_len n0 xs0
        rw [← HyF.out] at hcl
        have Hdm : Hid (dimOf n0 xs0 = (yF.length : Int) - 2) := by have := hcl.2; show _ = _; omega
        clear hcl
        obtain ⟨yA, hyA⟩ : ∃ y, y = zs (facesOf n0 xs0) := ⟨_, rfl⟩
        have HyA := hide hyA
        have Hsum : Hid (yF.sum = (yA.length : Int)) := by show _ = _; rw [HyF.out, counts_total, hyA, zsl]
        clear hyA
        have Hcs : Hid (∀ x ∈ yF, 0 ≤ x ∧ x ≤ 64) := by intro x hx; rw [HyF.out] at hx; exact counts_small x hx
        have Hsg : Hid (∀ (W : World) (v : Value), IntsAt W W.heap.size v yF → Calls Try.prog 56 #[v] W fun e w' => e = .returned (.int .i64 (eulerOf n0 xs0)) ∧ W = w') := by
          intro W v h
          have h1 := signedS v yF W h (by omega) Hcs.out (fun j => (faceCounts n0 xs0).getD j 0) (fun j => by rw [HyF.out])
          have h2 := counts_signed n0 xs0
          rw [← HyF.out] at h2
          rw [← HyF.out, h2] at h1
          exact h1
        have Hat : Hid (∀ (W : World) (v : Value), IntsAt W W.heap.size v yF → Calls Try.prog 57 #[v, .int .i64 1] W fun e w' => e = .returned (.int .i64 (sizeOf (usedOf n0 xs0))) ∧ W = w') := by
          intro W v h
          have h1 := at22_1S v yF W h (by omega)
          have h2 := counts_at1 n0 xs0
          rw [← HyF.out] at h2
          rwa [h2] at h1
        have hwr : IntKind.i64.wrap (yF.length : Int) = (yF.length : Int) := IntWalk.i64_in _ (by omega)
        have hq1 : ((yF.length : Int) == (yF.length : Int)) = true := by simp
        have hq2 : ((yA.length : Int) == (yA.length : Int)) = true := by simp
        have hq3 : (eulerOf n0 xs0 == eulerOf n0 xs0) = true := by simp
        have hq4 : (sizeOf (usedOf n0 xs0) == sizeOf (usedOf n0 xs0)) = true := by simp
        have hBc2 := hide (AtC.to HBc.out hbr.out)
        have rqr := hide (now_ HXr.out hbr.out)
        have rqf := hide (now_ HFr.out hbr.out)
        have hSr : Hid (∀ X : World, Below wr.heap.size wr X → ((X.cell? ⟨w1.heap.size, 0, none⟩ = some (.int .i64 n0) ∧ X.cell? ⟨w1.heap.size, 1, none⟩ = some (.slice Axc xs0.length cxc)) ∧ Hid (Below wr.heap.size wr X))) := fun X h => ⟨AtC.to hBc2.out h, h⟩
        have hb0r : Below wr.heap.size wr wr.drew := (Below.refl _ _).drew
        have Hcw := hide (nxt c_8.out hbr.out)
        go_wp2_with fail
        go_region_held3 (fun X => ((X.cell? ⟨w1.heap.size, 0, none⟩ = some (.int .i64 n0) ∧ X.cell? ⟨w1.heap.size, 1, none⟩ = some (.slice Axc xs0.length cxc)) ∧ Hid (Below wr.heap.size wr X))) (first | with_reducible exact hSr.out _ (by assumption) | go_keep) (first | (go_at_call 40; rename_i hSx _ _; refine (asRetN (dimOfI n0 _ xs0 _ (now_ rqr.out hSx.2) (by omega)) Hdm.out).mono ?_; rintro e wq ⟨rfl, bq⟩; have hbxr := nxt hSx.2 bq) | (go_at_call 54; rename_i hSx _ _; refine (asRetN (asBel (totalS _ yF _ (now_ rqf.out hSx.2) (by omega) Hcs.out)) Hsum.out).mono ?_; rintro e wq ⟨rfl, bq⟩; have hbxr := nxt hSx.2 bq) | (go_at_call 55; rename_i hSx _ _; refine (asI (facesOfS n0 _ xs0 _ (now_ rqr.out hSx.2) (by omega)) HyA.out).mono ?_; rintro e wq ⟨vq, rfl, oq, bq⟩; obtain ⟨Aq, cq, rfl⟩ := own_shape oq; have hbxr := nxt hSx.2 bq) | (go_at_call 56; rename_i hSx _ _; refine (asBel (Hsg.out _ _ (now_ rqf.out hSx.2))).mono ?_; rintro e wq ⟨rfl, bq⟩; have hbxr := nxt hSx.2 bq) | (go_at_call 42; rename_i hSx _ _; refine (eulerOfI n0 _ xs0 _ (now_ rqr.out hSx.2) (by omega)).mono ?_; rintro e wq ⟨rfl, bq⟩; have hbxr := nxt hSx.2 bq) | (go_at_call 57; rename_i hSx _ _; refine (asBel (Hat.out _ _ (now_ rqf.out hSx.2))).mono ?_; rintro e wq ⟨rfl, bq⟩; have hbxr := nxt hSx.2 bq) | (go_at_call 48; rename_i hSx _ _; refine (usedPointsI n0 _ xs0 _ (now_ rqr.out hSx.2) (by omega)).mono ?_; rintro e wq ⟨rfl, bq⟩; have hbxr := nxt hSx.2 bq) | (go_at_call 58; rename_i hSx _ _; refine (asBel (sizeOfS _ _)).mono ?_; rintro e wq ⟨rfl, bq⟩; have hbxr := nxt hSx.2 bq))
        all_goals (
          go_wp2
          go_ret
          exact ⟨rfl, Hcw.out.trans (hbxr.mono Hcw.out.size)⟩)

set_option maxRecDepth 100000 in
theorem lifted_FnCounts (os : Os) (started : os.Started) (H : Type) (enc : TypeId × Value → H) :
    ReturnsInHanded {} Try.checked os 9 .any (Rows.fnCountsSpec.pre6 enc Try.prog Try.f9 Rows.fnCountsRow.domain false) (Rows.fnCountsSpec.post enc Try.prog Try.f9 false true false false) := by
  refine returnsInHanded_of_change (C := Try.checked) own started (by kernel_rfl) Try.func9
    (ChangeSpec.witness6 (enc := enc) (C := Try.checked) false ⟨#[], #[.slice none 0 0], []⟩ 8 (by kernel_rfl) (by kernel_rfl) (by kernel_rfl) (by kernel_rfl)) ?_
  intro W base args ds gs before hval0 hW hcnd _
  have hval : ∀ (j : Nat) t v, Try.f9.params[j]? = some t → args[j]? = some v → Value.okWide Try.prog W .any base t v := hval0
  have hW' := hW
  obtain ⟨p, q, hA0, hV, rfl, hfz, hnd⟩ := hW
  have hA : DataW.TrodAll enc Try.prog W 0 (fun _ => true) true Try.f9.params.toList args.toList ds p := hA0
  rw [Try.params9] at hA hval
  have hB := fun W' => back_all (enc := enc) (W' := W') laidOut _ _ _ _ (show AllR Try.prog [31] from ⟨⟨by kernel_rfl, of_decide_eq_true (by kernel_rfl)⟩, trivial⟩) hA
  obtain ⟨v0, vs0, d0, ds0, p0, q0, hargs, rfl, rfl, h0, r0⟩ := trodAll_cons hA
  obtain ⟨rfl, rfl, rfl⟩ := trodAll_nil r0
  obtain rfl : args = #[v0] := by cases args; simp_all
  obtain ⟨rfl, rfl⟩ := trodVars_none hV
  obtain ⟨ls0, rd0, bl0⟩ := openBytes Try.underlying31 Try.underlying5 (by kernel_rfl) h0 (okWide_slice Try.underlying31 (hval 0 31 v0 rfl rfl))
  clear hA0 hval0
  refine (walk_FnCounts W v0 ls0 rd0 bl0).mono fun e W' ⟨he, bel⟩ => ?_
  subst he
  exact ⟨_, rfl, _, _, _, [], _, [], hW', trodAll_mk1 (shut_bool Try.underlying4 _), hB W' bel, rfl, bel.frame _, fun h => by cases h⟩

theorem FnCounts_holds : Rows.FnCountsSaid :=
  OpenClaim.holds_of_wide 9 Try.f9 rfl rfl rfl rfl rfl rfl rfl ⟨rfl, rfl, rfl, rfl, rfl⟩ rfl rfl rfl rfl rfl (by kernel_rfl) Try.func9 (by kernel_rfl)
    (of_decide_eq_true (by kernel_rfl)) (by unfold Func.isWrapper; first | (rw [if_pos (by decide +kernel)]; kernel_rfl) | (rw [if_neg (by decide +kernel)]; exact ⟨rfl, rfl⟩))
    (fun os started H enc _ => lifted_FnCounts os started H enc)
end Go.Proofs.Ytmkacjpjcfffmaa
