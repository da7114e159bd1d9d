/- The law FnExactComplexText, and its tied card. No condition. -/
import Derived.Test.YtmkacjpjcfffmaaDoorTab
import Derived.Test.YtmkacjpjcfffmaaDoorW82
import Derived.Test.YtmkacjpjcfffmaaDoorW8
import Derived.Test.YtmkacjpjcfffmaaDoorBox
import Derived.Test.YtmkacjpjcfffmaaDoorOpen
namespace Go.Proofs.YtmkacjpjcfffmaaDoor
open Go.ChangeShapes Go.WideShapes Go.ChangeAt Go.RowKit
open Go.ChangeMaps (open_string shut_string)
set_option linter.unusedVariables false

theorem both_FnExactComplexText (n : Int) (xs : List Int) (hl : xs.length ≤ 1048576) (bx : ∀ x ∈ xs, -9223372036854775808 ≤ x ∧ x ≤ 9223372036854775807) : ∃ r : List UInt8,
    (∀ (W : World) (u : Value), IntsAt W W.heap.size u xs → Calls Tryd.prog 9 #[.agg #[.int .i64 n, u]] W fun e w' => RetS W r e w') ∧
    (∀ (W : World) (u : Value), IntsAt W W.heap.size u xs → Tab W → Calls Tryd.prog 11 #[.agg #[.int .i64 n, u]] W fun e w' => RetS W r e w') :=
  ⟨cxTxt n xs, fun W u h => complexTextS n u xs W h (by omega), fun W u h hT => complexTextI n u xs W h (by omega) hT⟩

theorem walk_FnExactComplexText (w : World) (hT : Tab w) (n0 : Int) (u0 : Value) (xs0 : List Int) (rd0 : IntsAt w w.heap.size u0 xs0) (bl0 : xs0.length ≤ 9223372036854775807) (bn0 : -9223372036854775808 ≤ n0 ∧ n0 ≤ 9223372036854775807) (bx0 : ∀ x ∈ xs0, -9223372036854775808 ≤ x ∧ x ≤ 9223372036854775807) : Calls Tryd.prog 4 #[.agg #[.int .i64 n0, u0]] w fun e w' => RetB w true e w' := by
  have HT := hide hT
  clear hT
  obtain ⟨A0, k0, rfl⟩ := reads_shape rd0
  obtain ⟨w1, hW1, at1, b1, z1⟩ := boxC w (.int .i64 n0) (.slice A0 xs0.length k0) 26
  have rp0 := now_ rd0 b1
  obtain ⟨e1_0, e1_1⟩ := at1
  by_cases hgd : 1048576 < xs0.length
  · go_enter Tryd.func4, Tryd.ntmps4
    go_wp2_with fail
    refine (szComplex_any n0 _ xs0 _ w1 rp0 (by omega) (by omega) (by omega)).mono ?_
    rw [if_pos (show (1048576 : Int) < xs0.length by omega)]
    rintro e w2 ⟨rfl, b2⟩
    have B := hide (nxt b1 b2)
    clear hW1
    go_wp2
    go_ret
    exact ⟨rfl, B.out⟩
  have hgd2 : xs0.length ≤ 1048576 := by omega
  have Rd0 := hide rp0
  have B1 := hide b1
  clear rd0 rp0 hgd b1
  obtain ⟨r, hS, hI⟩ := both_FnExactComplexText n0 xs0 hgd2 bx0
  go_enter Tryd.func4, Tryd.ntmps4
  go_wp2_with fail
  clear hW1
  have c_1 : Hid (Below w1.heap.size w1 w1) := Below.refl _ _
  have p_1 : Hid (AtC w1 w.heap.size (.int .i64 n0) (.slice A0 xs0.length k0)) := ⟨e1_0, e1_1⟩
  obtain ⟨vp_1_0, vp_1_1⟩ := p_1.out
  clear e1_0 e1_1
  refine (szComplex_any n0 _ xs0 _ w1 Rd0.out (by omega) (by omega) (by omega)).mono ?_
  rw [if_neg (show ¬ (1048576 : Int) < xs0.length by omega)]
  rintro e w2 ⟨rfl, b2⟩
  clear vp_1_0 vp_1_1
  have c_2 : Hid (Below w1.heap.size w1 w2) := b2
  have p_2 : Hid (AtC w2 w.heap.size (.int .i64 n0) (.slice A0 xs0.length k0)) := AtC.to p_1.out b2
  clear c_1 p_1
  obtain ⟨vp_2_0, vp_2_1⟩ := p_2.out
  go_wp2_with fail
  refine (toComplex_any n0 _ xs0 w2 (now_ Rd0.out c_2.out) (by omega)).mono ?_
  rintro e w3 ⟨vt, rfl, ot, b3⟩
  clear vp_2_0 vp_2_1
  have c_3 : Hid (Below w1.heap.size w1 w3) := nxt c_2.out b3
  have p_3 : Hid (AtC w3 w.heap.size (.int .i64 n0) (.slice A0 xs0.length k0)) := AtC.to p_2.out b3
  clear c_2 p_2
  obtain ⟨vp_3_0, vp_3_1⟩ := p_3.out
  go_wp2_with fail
  refine (hS w3 _ (own_reads ot)).mono ?_
  rintro e w4 ⟨rfl, b4⟩
  clear vp_3_0 vp_3_1
  have c_4 : Hid (Below w1.heap.size w1 w4) := nxt c_3.out b4
  have p_4 : Hid (AtC w4 w.heap.size (.int .i64 n0) (.slice A0 xs0.length k0)) := AtC.to p_3.out b4
  clear c_3 p_3
  obtain ⟨vp_4_0, vp_4_1⟩ := p_4.out
  clear b4
  go_wp2_with fail
  have z_c_x : Hid (w1.heap.size ≤ w4.heap.size) := c_4.out.size
  have bl_p_x : Hid (w.heap.size < w4.heap.size) := p_4.out.lt
  refine (toComplex_any n0 _ xs0 w4 (now_ Rd0.out c_4.out) (by omega)).mono ?_
  rintro e w5 ⟨vx, rfl, ox, b5⟩
  clear vp_4_0 vp_4_1
  have c_5 : Hid (Below w1.heap.size w1 w5) := nxt c_4.out b5
  have p_5 : Hid (AtC w5 w.heap.size (.int .i64 n0) (.slice A0 xs0.length k0)) := AtC.to p_4.out b5
  clear c_4 p_4
  obtain ⟨vp_5_0, vp_5_1⟩ := p_5.out
  obtain ⟨Ax, cx, rfl⟩ := own_shape ox
  have x_5 : Hid (OwnV 3 w5 w4.heap.size (.slice Ax xs0.length cx) (ints xs0)) := ox
  clear ox b5
  have lt_x_bx : Hid (∀ j, Value.ownBlock (.slice Ax xs0.length cx) = some j → j < w5.heap.size) := fun j hj => (own_block x_5.out j hj).2
  obtain ⟨w6, hW6, atbx, b6, z6⟩ := boxC w5 (.int .i64 n0) (.slice Ax xs0.length cx) 29
  have c_6 : Hid (Below w1.heap.size w1 w6) := nxt c_5.out b6
  have p_6 : Hid (AtC w6 w.heap.size (.int .i64 n0) (.slice A0 xs0.length k0)) := AtC.to p_5.out b6
  have x_6 : Hid (OwnV 3 w6 w4.heap.size (.slice Ax xs0.length cx) (ints xs0)) := own_below x_5.out b6
  clear c_5 p_5 x_5
  obtain ⟨vp_6_0, vp_6_1⟩ := p_6.out
  have bx_6 : Hid (AtC w6 w5.heap.size (.int .i64 n0) (.slice Ax xs0.length cx)) := atbx
  obtain ⟨vbx_6_0, vbx_6_1⟩ := bx_6.out
  clear atbx b6
  go_wp2_with fail
  clear vp_5_0 vp_5_1 hW6
  refine (hI w6 _ (own_reads x_6.out) ((HT.out.on B1.out).on c_6.out)).mono ?_
  rintro e w7 ⟨rfl, b7⟩
  clear vp_6_0 vp_6_1 vbx_6_0 vbx_6_1
  have c_7 : Hid (Below w1.heap.size w1 w7) := nxt c_6.out b7
  have p_7 : Hid (AtC w7 w.heap.size (.int .i64 n0) (.slice A0 xs0.length k0)) := AtC.to p_6.out b7
  have x_7 : Hid (OwnV 3 w7 w4.heap.size (.slice Ax xs0.length cx) (ints xs0)) := own_below x_6.out b7
  have bx_7 : Hid (AtC w7 w5.heap.size (.int .i64 n0) (.slice Ax xs0.length cx)) := AtC.to bx_6.out b7
  clear c_6 p_6 x_6 bx_6
  obtain ⟨vp_7_0, vp_7_1⟩ := p_7.out
  obtain ⟨vbx_7_0, vbx_7_1⟩ := bx_7.out
  clear b7
  have hne : (r == r) = true := by simp
  have Sx8 : Hid (Below w1.heap.size w1 w7.drew ∧ AtC w7.drew w.heap.size (.int .i64 n0) (.slice A0 xs0.length k0) ∧ OwnV 3 w7.drew w4.heap.size (.slice Ax xs0.length cx) (ints xs0) ∧ AtC w7.drew w5.heap.size (.int .i64 n0) (.slice Ax xs0.length cx)) := ⟨(c_7.out).drew, p_7.out, x_7.out, bx_7.out⟩
  have hK8 : Hid (∀ W W' : World, (AtC W w5.heap.size (.int .i64 n0) (.slice Ax xs0.length cx) ∧ AtC W w.heap.size (.int .i64 n0) (.slice A0 xs0.length k0) ∧ Hid (Below w1.heap.size w1 W ∧ AtC W w.heap.size (.int .i64 n0) (.slice A0 xs0.length k0) ∧ OwnV 3 W w4.heap.size (.slice Ax xs0.length cx) (ints xs0) ∧ AtC W w5.heap.size (.int .i64 n0) (.slice Ax xs0.length cx))) → Below W.heap.size W W' → (AtC W' w5.heap.size (.int .i64 n0) (.slice Ax xs0.length cx) ∧ AtC W' w.heap.size (.int .i64 n0) (.slice A0 xs0.length k0) ∧ Hid (Below w1.heap.size w1 W' ∧ AtC W' w.heap.size (.int .i64 n0) (.slice A0 xs0.length k0) ∧ OwnV 3 W' w4.heap.size (.slice Ax xs0.length cx) (ints xs0) ∧ AtC W' w5.heap.size (.int .i64 n0) (.slice Ax xs0.length cx)))) := fun W W' h k => ⟨h.1.to k, h.2.1.to k, nxt h.2.2.1 k, AtC.to h.2.2.2.1 k, own_below h.2.2.2.2.1 k, AtC.to h.2.2.2.2.2 k⟩
  go_wp2
  go_region_held3 (fun W => ((W.cell? ⟨w5.heap.size, 0, none⟩ = some (.int .i64 n0) ∧ W.cell? ⟨w5.heap.size, 1, none⟩ = some (.slice Ax xs0.length cx)) ∧ (W.cell? ⟨w.heap.size, 0, none⟩ = some (.int .i64 n0) ∧ W.cell? ⟨w.heap.size, 1, none⟩ = some (.slice A0 xs0.length k0)) ∧ Hid (Below w1.heap.size w1 W ∧ AtC W w.heap.size (.int .i64 n0) (.slice A0 xs0.length k0) ∧ OwnV 3 W w4.heap.size (.slice Ax xs0.length cx) (ints xs0) ∧ AtC W w5.heap.size (.int .i64 n0) (.slice Ax xs0.length cx)))) (first | exact ⟨⟨vbx_7_0, vbx_7_1⟩, ⟨vp_7_0, vp_7_1⟩, Sx8⟩ | exact hK8.out _ _ (by assumption) (by assumption) | go_keep) (first | (go_at_call 10; refine (toComplex_any n0 _ xs0 _ (by rename_i hS _ _; exact now_ Rd0.out hS.2.2.1) (by omega)).mono ?_; rintro e wq8 ⟨vq, rfl, oq, bq⟩) | (go_at_call 12; refine (eqComplex_same n0 _ _ xs0 _ (by rename_i hS _ _; exact own_reads hS.2.2.2.2.1) (own_reads (by assumption)) (by omega)).mono ?_; rintro e w8 ⟨rfl, bq⟩))
  rename_i hSS
  have hC := hSS.2.2
  clear vp_7_0 vp_7_1 vbx_7_0 vbx_7_1
  have c_8 : Hid (Below w1.heap.size w1 w8) := hC.1
  have p_8 : Hid (AtC w8 w.heap.size (.int .i64 n0) (.slice A0 xs0.length k0)) := hC.2.1
  have x_8 : Hid (OwnV 3 w8 w4.heap.size (.slice Ax xs0.length cx) (ints xs0)) := hC.2.2.1
  have bx_8 : Hid (AtC w8 w5.heap.size (.int .i64 n0) (.slice Ax xs0.length cx)) := hC.2.2.2
  clear c_7 p_7 x_7 bx_7 hC hSS Sx8 hK8
  obtain ⟨vp_8_0, vp_8_1⟩ := p_8.out
  obtain ⟨vbx_8_0, vbx_8_1⟩ := bx_8.out
  go_wp2
  go_ret
  exact ⟨rfl, B1.out.trans (c_8.out.mono (by omega))⟩

set_option maxRecDepth 100000 in
theorem lifted_FnExactComplexText (os : Os) (started : os.Started) (H : Type) (enc : TypeId × Value → H) :
    ReturnsInHanded {} Tryd.checked os 4 .any (fun w args => (Rows.fnExactComplexTextSpec.pre enc Tryd.prog Tryd.f4 [] false w args ∧ laidMetH Tryd.prog laidL w) ∧ sizedMet enc Tryd.prog Tryd.f4 (OpenSpec.ofChange Rows.fnExactComplexTextSpec) false w args) (Rows.fnExactComplexTextSpec.post enc Tryd.prog Tryd.f4 false true false false) := by
  refine returnsInHanded_of_change_and (C := Tryd.checked) (X := fun w _ => laidMetH Tryd.prog laidL w) (fun _ _ _ hh h => h.of_heap hh) own started (by kernel_rfl) Tryd.func4
    (ChangeSpec.witness_shaped (enc := enc) (C := Tryd.checked) (os := os) (X := fun w _ => laidMetH Tryd.prog laidL w) false (World.doorLaid Tryd.prog 24 os) #[.agg #[.int .i64 0, .slice none 0 0]] 8 rfl (World.shaped_of_RefB (by kernel_rfl) (by kernel_rfl)) (by kernel_rfl) (by kernel_rfl) (by kernel_rfl) (door_met os _)) ?_
  intro W base args ds gs before hval0 hW _ _ hL _
  have hval : ∀ (j : Nat) t v, Tryd.f4.params[j]? = some t → args[j]? = some v → Value.okWide Tryd.prog W .any base t v := hval0
  have hW' := hW
  obtain ⟨p, q, hA0, hV, rfl, hfz, hnd⟩ := hW
  have hA : DataW.TrodAll enc Tryd.prog W 0 (fun _ => true) true Tryd.f4.params.toList args.toList ds p := hA0
  rw [Tryd.params4] at hA hval
  have hB := fun W' => back_all (enc := enc) (W' := W') laidOut _ _ _ _ (show AllR Tryd.prog [26] from ⟨⟨by kernel_rfl, of_decide_eq_true (by kernel_rfl)⟩, trivial⟩) hA
  obtain ⟨v0, vs0, d0, ds0, p0, q0, hargs, rfl, rfl, h0, r0⟩ := trodAll_cons hA
  obtain ⟨rfl, rfl, rfl⟩ := trodAll_nil r0
  obtain rfl : args = #[v0] := by cases args; simp_all
  obtain ⟨rfl, rfl⟩ := trodVars_none hV
  obtain ⟨n0, u0, xs0, rfl, rd0, bl0, bn0, bx0⟩ := openComplex Tryd.underlying26 (by kernel_rfl) (by kernel_rfl) Tryd.underlying3 Tryd.underlying24 Tryd.underlying3 (by kernel_rfl) (hval 0 26 v0 rfl rfl) h0
  clear hA0 hval0
  refine (walk_FnExactComplexText W (tab_of hL) n0 u0 xs0 rd0 bl0 bn0 bx0).mono fun e W' ⟨he, bel⟩ => ?_
  subst he
  exact ⟨_, rfl, _, _, _, [], _, [], hW', trodAll_mk1 (shut_bool Tryd.underlying4 _), hB W' bel, rfl, bel.frame _, fun h => by cases h⟩

theorem FnExactComplexText_row : Rows.FnExactComplexTextSaid :=
  OpenClaim.holds_of_wide 4 Tryd.f4 rfl rfl rfl rfl rfl rfl rfl ⟨rfl, rfl, rfl, rfl, rfl⟩ rfl rfl rfl rfl rfl (by kernel_rfl) Tryd.func4 (by kernel_rfl)
    (of_decide_eq_true (by kernel_rfl)) (by unfold Func.isWrapper; first | (rw [if_pos (by decide +kernel)]; kernel_rfl) | (rw [if_neg (by decide +kernel)]; exact ⟨rfl, rfl⟩))
    (fun os started H enc _ => lifted_FnExactComplexText os started H enc)

theorem FnExactComplexText_holds : Rows.FnExactComplexTextCardSaid :=
  Claim7.holds_tied_plain_at .later [] [.data, .data, .data] true Rows.fnExactComplexTextCard.stood.harness false
    FnExactComplexText_row (fun _ h => by cases h) (by kernel_rfl) (fun _ h => by cases h) fnExactComplexText_row_tie rfl ⟨rfl, rfl⟩ (by kernel_rfl) rfl
    (fun f fn hf hfn => by
      obtain rfl : f = 4 := Option.some.inj ((show Tryd.prog.funcNamed "loop.example/g03100/laws.FnExactComplexText" = some 4 by kernel_rfl).symm.trans hf) |>.symm
      obtain rfl : fn = Tryd.f4 := (Option.some.inj (Tryd.func4.symm.trans hfn)).symm
      exact ⟨by kernel_rfl, fun j t ht => by
        rw [Tryd.params4] at ht
        have hm : t ∈ [26] := by simpa using Array.mem_of_getElem? ht
        have hall : ([26].all fun u => !Tryd.prog.wantsStandIn u) = true := by kernel_rfl
        exact (show Tryd.prog.wantsStandIn t = false by simpa using List.all_eq_true.1 hall t hm)⟩)
    (by kernel_rfl)
end Go.Proofs.YtmkacjpjcfffmaaDoor
