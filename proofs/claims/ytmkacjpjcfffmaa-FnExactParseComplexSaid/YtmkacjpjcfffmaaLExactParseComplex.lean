/- The law FnExactParseComplex. No condition. -/
import Derived.Test.YtmkacjpjcfffmaaW58
import Derived.Test.YtmkacjpjcfffmaaTxt
import Derived.Test.YtmkacjpjcfffmaaBox
import Derived.Test.YtmkacjpjcfffmaaOpen
namespace Go.Proofs.Ytmkacjpjcfffmaa
open Go.ChangeShapes Go.WideShapes Go.ChangeAt Go.RowKit
open Go.ChangeMaps (open_string shut_string)
set_option linter.unusedVariables false

theorem pcxXs_len (l : List UInt8) (h : l.length ≤ 1048576) : (pcxXs l).length ≤ 1073741824 := by
  unfold pcxXs setsXs
  split
  · split
    · simp
    · have h1 := splitB_len 44 (l.drop 2)
      rw [List.length_map]
      have h2 : (l.drop 2).length ≤ l.length := by rw [List.length_drop]; omega
      omega
  · simp
theorem both_FnExactParseComplex (a : List UInt8) (hl : a.length ≤ 1048576) : ∃ (N : Int) (XS : List Int) (B : Bool), XS.length ≤ 1073741824 ∧
    (∀ (W : World), Calls Try.prog 29 #[.string ⟨a.toArray⟩] W fun e w' => RetCB 3 W N XS B e w') ∧
    (∀ (W : World), Calls Try.prog 30 #[.string ⟨a.toArray⟩] W fun e w' => RetCB 3 W N XS B e w') :=
  ⟨pcxN a, pcxXs a, pcxOk a, pcxXs_len a hl, fun W => parseComplexS a W (by omega), fun W => parseComplexI a W (by omega)⟩

theorem walk_FnExactParseComplex (w : World) (a0 : List UInt8) (bd0 : a0.length ≤ 9223372036854775807) : Calls Try.prog 8 #[.string ⟨a0.toArray⟩] w fun e w' => RetB w true e w' := by
  by_cases hgd : 1048576 < a0.length
  · go_enter Try.func8, Try.ntmps8
    go_wp2
    go_ret
    exact ⟨rfl, Below.refl _ _⟩
  have hgd2 : a0.length ≤ 1048576 := by omega
  clear hgd
  obtain ⟨N, XS, B, hXl, hS, hI⟩ := both_FnExactParseComplex a0 hgd2
  go_enter Try.func8, Try.ntmps8
  have c_0 : Hid (Below w.heap.size w w) := Below.refl _ _
  go_wp2_with fail
  have z_c_W : Hid (w.heap.size ≤ w.heap.size) := c_0.out.size
  refine (hS w).mono ?_
  rintro e w1 ⟨vW, rfl, oW, b1⟩
  have c_1 : Hid (Below w.heap.size w w1) := b1
  clear c_0
  obtain ⟨AW, cW, rfl⟩ := own_shape oW
  have W_1 : Hid (OwnV 3 w1 w.heap.size (.slice AW XS.length cW) (ints XS)) := oW
  clear oW b1
  have lt_W_bW : Hid (∀ j, Value.ownBlock (.slice AW XS.length cW) = some j → j < w1.heap.size) := fun j hj => (own_block W_1.out j hj).2
  obtain ⟨w2, hW2, atbW, b2, z2⟩ := boxC w1 (.int .i64 N) (.slice AW XS.length cW) 42
  have c_2 : Hid (Below w.heap.size w w2) := nxt c_1.out b2
  have W_2 : Hid (OwnV 3 w2 w.heap.size (.slice AW XS.length cW) (ints XS)) := own_below W_1.out b2
  clear c_1 W_1
  have bW_2 : Hid (AtC w2 w1.heap.size (.int .i64 N) (.slice AW XS.length cW)) := atbW
  obtain ⟨vbW_2_0, vbW_2_1⟩ := bW_2.out
  clear atbW b2
  go_wp2_with fail
  clear hW2
  have lt_W_G : Hid (∀ j, Value.ownBlock (.slice AW XS.length cW) = some j → j < w2.heap.size) := fun j hj => (own_block W_2.out j hj).2
  have z_c_G : Hid (w.heap.size ≤ w2.heap.size) := c_2.out.size
  have bl_bW_G : Hid (w1.heap.size < w2.heap.size) := bW_2.out.lt
  refine (hI w2).mono ?_
  rintro e w3 ⟨vG, rfl, oG, b3⟩
  clear vbW_2_0 vbW_2_1
  have c_3 : Hid (Below w.heap.size w w3) := nxt c_2.out b3
  have W_3 : Hid (OwnV 3 w3 w.heap.size (.slice AW XS.length cW) (ints XS)) := own_below W_2.out b3
  have bW_3 : Hid (AtC w3 w1.heap.size (.int .i64 N) (.slice AW XS.length cW)) := AtC.to bW_2.out b3
  clear c_2 W_2 bW_2
  obtain ⟨vbW_3_0, vbW_3_1⟩ := bW_3.out
  obtain ⟨AG, cG, rfl⟩ := own_shape oG
  have G_3 : Hid (OwnV 3 w3 w2.heap.size (.slice AG XS.length cG) (ints XS)) := oG
  clear oG b3
  have lt_W_bG : Hid (∀ j, Value.ownBlock (.slice AW XS.length cW) = some j → j < w3.heap.size) := fun j hj => (own_block W_3.out j hj).2
  have lt_G_bG : Hid (∀ j, Value.ownBlock (.slice AG XS.length cG) = some j → j < w3.heap.size) := fun j hj => (own_block G_3.out j hj).2
  obtain ⟨w4, hW4, atbG, b4, z4⟩ := boxC w3 (.int .i64 N) (.slice AG XS.length cG) 42
  have c_4 : Hid (Below w.heap.size w w4) := nxt c_3.out b4
  have W_4 : Hid (OwnV 3 w4 w.heap.size (.slice AW XS.length cW) (ints XS)) := own_below W_3.out b4
  have bW_4 : Hid (AtC w4 w1.heap.size (.int .i64 N) (.slice AW XS.length cW)) := AtC.to bW_3.out b4
  have G_4 : Hid (OwnV 3 w4 w2.heap.size (.slice AG XS.length cG) (ints XS)) := own_below G_3.out b4
  clear c_3 W_3 bW_3 G_3
  obtain ⟨vbW_4_0, vbW_4_1⟩ := bW_4.out
  have bG_4 : Hid (AtC w4 w3.heap.size (.int .i64 N) (.slice AG XS.length cG)) := atbG
  obtain ⟨vbG_4_0, vbG_4_1⟩ := bG_4.out
  clear atbG b4
  have hne : (B != B) = false := by simp
  go_wp2_with fail
  clear vbW_3_0 vbW_3_1 hW4
  refine (eqComplex_same N _ _ XS w4 (own_reads G_4.out) (own_reads W_4.out) (by omega)).mono ?_
  rintro e w5 ⟨rfl, b5⟩
  clear vbW_4_0 vbW_4_1 vbG_4_0 vbG_4_1
  have c_5 : Hid (Below w.heap.size w w5) := nxt c_4.out b5
  have W_5 : Hid (OwnV 3 w5 w.heap.size (.slice AW XS.length cW) (ints XS)) := own_below W_4.out b5
  have bW_5 : Hid (AtC w5 w1.heap.size (.int .i64 N) (.slice AW XS.length cW)) := AtC.to bW_4.out b5
  have G_5 : Hid (OwnV 3 w5 w2.heap.size (.slice AG XS.length cG) (ints XS)) := own_below G_4.out b5
  have bG_5 : Hid (AtC w5 w3.heap.size (.int .i64 N) (.slice AG XS.length cG)) := AtC.to bG_4.out b5
  clear c_4 W_4 bW_4 G_4 bG_4
  obtain ⟨vbW_5_0, vbW_5_1⟩ := bW_5.out
  obtain ⟨vbG_5_0, vbG_5_1⟩ := bG_5.out
  clear b5
  go_wp2_with fail
  refine (markComplex_any N _ XS 1 w5 G_5.out (by omega) (by omega) (by omega)).mono ?_
  rintro e w6 ⟨rfl, oq6, g6⟩
  clear vbW_5_0 vbW_5_1 vbG_5_0 vbG_5_1
  have c_6 : Hid (Below w.heap.size w w6) := (c_5.out).trans (grown_below g6 (c_5.out).size (fun j hj => Nat.le_trans z_c_G.out (own_block G_5.out j hj).1))
  have W_6 : Hid (OwnV 3 w6 w.heap.size (.slice AW XS.length cW) (ints XS)) := own_grown W_5.out g6 (fun j hj e => by have h1 := lt_W_G.out j hj; have h2 := (own_block G_5.out j e).1; omega)
  have bW_6 : Hid (AtC w6 w1.heap.size (.int .i64 N) (.slice AW XS.length cW)) := AtC.grown bW_5.out g6 (fun e => by have h1 := bl_bW_G.out; have h2 := (own_block G_5.out _ e).1; omega)
  have bG_6 : Hid (AtC w6 w3.heap.size (.int .i64 N) (.slice AG XS.length cG)) := AtC.grown bG_5.out g6 (fun e => by have h1 := lt_G_bG.out _ e; omega)
  have G_6 : Hid (OwnV 3 w6 w2.heap.size (.slice AG XS.length cG) (ints (marks 1 XS.length))) := oq6
  clear c_5 W_5 bW_5 G_5 bG_5 oq6 g6
  obtain ⟨vbW_6_0, vbW_6_1⟩ := bW_6.out
  obtain ⟨vbG_6_0, vbG_6_1⟩ := bG_6.out
  go_wp2_with fail
  refine (heldComplex_yes N _ XS.length 1 w6 (own_reads G_6.out) (by omega) (by omega) (by omega)).mono ?_
  rintro e w7 ⟨rfl, b7⟩
  clear vbW_6_0 vbW_6_1 vbG_6_0 vbG_6_1
  have c_7 : Hid (Below w.heap.size w w7) := nxt c_6.out b7
  have W_7 : Hid (OwnV 3 w7 w.heap.size (.slice AW XS.length cW) (ints XS)) := own_below W_6.out b7
  have bW_7 : Hid (AtC w7 w1.heap.size (.int .i64 N) (.slice AW XS.length cW)) := AtC.to bW_6.out b7
  have G_7 : Hid (OwnV 3 w7 w2.heap.size (.slice AG XS.length cG) (ints (marks 1 XS.length))) := own_below G_6.out b7
  have bG_7 : Hid (AtC w7 w3.heap.size (.int .i64 N) (.slice AG XS.length cG)) := AtC.to bG_6.out b7
  clear c_6 W_6 bW_6 G_6 bG_6
  obtain ⟨vbW_7_0, vbW_7_1⟩ := bW_7.out
  obtain ⟨vbG_7_0, vbG_7_1⟩ := bG_7.out
  clear b7
  go_wp2_with fail
  have lt_W_H : Hid (∀ j, Value.ownBlock (.slice AW XS.length cW) = some j → j < w7.heap.size) := fun j hj => (own_block W_7.out j hj).2
  have lt_G_H : Hid (∀ j, Value.ownBlock (.slice AG XS.length cG) = some j → j < w7.heap.size) := fun j hj => (own_block G_7.out j hj).2
  have z_c_H : Hid (w.heap.size ≤ w7.heap.size) := c_7.out.size
  have bl_bW_H : Hid (w1.heap.size < w7.heap.size) := bW_7.out.lt
  have bl_bG_H : Hid (w3.heap.size < w7.heap.size) := bG_7.out.lt
  refine (hI w7).mono ?_
  rintro e w8 ⟨vH, rfl, oH, b8⟩
  clear vbW_7_0 vbW_7_1 vbG_7_0 vbG_7_1
  have c_8 : Hid (Below w.heap.size w w8) := nxt c_7.out b8
  have W_8 : Hid (OwnV 3 w8 w.heap.size (.slice AW XS.length cW) (ints XS)) := own_below W_7.out b8
  have bW_8 : Hid (AtC w8 w1.heap.size (.int .i64 N) (.slice AW XS.length cW)) := AtC.to bW_7.out b8
  have G_8 : Hid (OwnV 3 w8 w2.heap.size (.slice AG XS.length cG) (ints (marks 1 XS.length))) := own_below G_7.out b8
  have bG_8 : Hid (AtC w8 w3.heap.size (.int .i64 N) (.slice AG XS.length cG)) := AtC.to bG_7.out b8
  clear c_7 W_7 bW_7 G_7 bG_7
  obtain ⟨vbW_8_0, vbW_8_1⟩ := bW_8.out
  obtain ⟨vbG_8_0, vbG_8_1⟩ := bG_8.out
  obtain ⟨AH, cH, rfl⟩ := own_shape oH
  have H_8 : Hid (OwnV 3 w8 w7.heap.size (.slice AH XS.length cH) (ints XS)) := oH
  clear oH b8
  have lt_W_bH : Hid (∀ j, Value.ownBlock (.slice AW XS.length cW) = some j → j < w8.heap.size) := fun j hj => (own_block W_8.out j hj).2
  have lt_G_bH : Hid (∀ j, Value.ownBlock (.slice AG XS.length cG) = some j → j < w8.heap.size) := fun j hj => (own_block G_8.out j hj).2
  have lt_H_bH : Hid (∀ j, Value.ownBlock (.slice AH XS.length cH) = some j → j < w8.heap.size) := fun j hj => (own_block H_8.out j hj).2
  obtain ⟨w9, hW9, atbH, b9, z9⟩ := boxC w8 (.int .i64 N) (.slice AH XS.length cH) 42
  have c_9 : Hid (Below w.heap.size w w9) := nxt c_8.out b9
  have W_9 : Hid (OwnV 3 w9 w.heap.size (.slice AW XS.length cW) (ints XS)) := own_below W_8.out b9
  have bW_9 : Hid (AtC w9 w1.heap.size (.int .i64 N) (.slice AW XS.length cW)) := AtC.to bW_8.out b9
  have G_9 : Hid (OwnV 3 w9 w2.heap.size (.slice AG XS.length cG) (ints (marks 1 XS.length))) := own_below G_8.out b9
  have bG_9 : Hid (AtC w9 w3.heap.size (.int .i64 N) (.slice AG XS.length cG)) := AtC.to bG_8.out b9
  have H_9 : Hid (OwnV 3 w9 w7.heap.size (.slice AH XS.length cH) (ints XS)) := own_below H_8.out b9
  clear c_8 W_8 bW_8 G_8 bG_8 H_8
  obtain ⟨vbW_9_0, vbW_9_1⟩ := bW_9.out
  obtain ⟨vbG_9_0, vbG_9_1⟩ := bG_9.out
  have bH_9 : Hid (AtC w9 w8.heap.size (.int .i64 N) (.slice AH XS.length cH)) := atbH
  obtain ⟨vbH_9_0, vbH_9_1⟩ := bH_9.out
  clear atbH b9
  go_wp2_with fail
  clear vbW_8_0 vbW_8_1 vbG_8_0 vbG_8_1 hW9
  refine (eqComplex_same N _ _ XS w9 (own_reads H_9.out) (own_reads W_9.out) (by omega)).mono ?_
  rintro e w10 ⟨rfl, b10⟩
  clear vbW_9_0 vbW_9_1 vbG_9_0 vbG_9_1 vbH_9_0 vbH_9_1
  have c_10 : Hid (Below w.heap.size w w10) := nxt c_9.out b10
  have W_10 : Hid (OwnV 3 w10 w.heap.size (.slice AW XS.length cW) (ints XS)) := own_below W_9.out b10
  have bW_10 : Hid (AtC w10 w1.heap.size (.int .i64 N) (.slice AW XS.length cW)) := AtC.to bW_9.out b10
  have G_10 : Hid (OwnV 3 w10 w2.heap.size (.slice AG XS.length cG) (ints (marks 1 XS.length))) := own_below G_9.out b10
  have bG_10 : Hid (AtC w10 w3.heap.size (.int .i64 N) (.slice AG XS.length cG)) := AtC.to bG_9.out b10
  have H_10 : Hid (OwnV 3 w10 w7.heap.size (.slice AH XS.length cH) (ints XS)) := own_below H_9.out b10
  have bH_10 : Hid (AtC w10 w8.heap.size (.int .i64 N) (.slice AH XS.length cH)) := AtC.to bH_9.out b10
  clear c_9 W_9 bW_9 G_9 bG_9 H_9 bH_9
  obtain ⟨vbW_10_0, vbW_10_1⟩ := bW_10.out
  obtain ⟨vbG_10_0, vbG_10_1⟩ := bG_10.out
  obtain ⟨vbH_10_0, vbH_10_1⟩ := bH_10.out
  clear b10
  go_wp2_with fail
  refine (heldComplex_yes N _ XS.length 1 w10 (own_reads G_10.out) (by omega) (by omega) (by omega)).mono ?_
  rintro e w11 ⟨rfl, b11⟩
  clear vbW_10_0 vbW_10_1 vbG_10_0 vbG_10_1 vbH_10_0 vbH_10_1
  have c_11 : Hid (Below w.heap.size w w11) := nxt c_10.out b11
  have W_11 : Hid (OwnV 3 w11 w.heap.size (.slice AW XS.length cW) (ints XS)) := own_below W_10.out b11
  have bW_11 : Hid (AtC w11 w1.heap.size (.int .i64 N) (.slice AW XS.length cW)) := AtC.to bW_10.out b11
  have G_11 : Hid (OwnV 3 w11 w2.heap.size (.slice AG XS.length cG) (ints (marks 1 XS.length))) := own_below G_10.out b11
  have bG_11 : Hid (AtC w11 w3.heap.size (.int .i64 N) (.slice AG XS.length cG)) := AtC.to bG_10.out b11
  have H_11 : Hid (OwnV 3 w11 w7.heap.size (.slice AH XS.length cH) (ints XS)) := own_below H_10.out b11
  have bH_11 : Hid (AtC w11 w8.heap.size (.int .i64 N) (.slice AH XS.length cH)) := AtC.to bH_10.out b11
  clear c_10 W_10 bW_10 G_10 bG_10 H_10 bH_10
  obtain ⟨vbW_11_0, vbW_11_1⟩ := bW_11.out
  obtain ⟨vbG_11_0, vbG_11_1⟩ := bG_11.out
  obtain ⟨vbH_11_0, vbH_11_1⟩ := bH_11.out
  clear b11
  go_wp2
  go_ret
  exact ⟨rfl, c_11.out⟩

set_option maxRecDepth 100000 in
theorem lifted_FnExactParseComplex (os : Os) (started : os.Started) (H : Type) (enc : TypeId × Value → H) :
    ReturnsInHanded {} Try.checked os 8 .any (Rows.fnExactParseComplexSpec.pre6 enc Try.prog Try.f8 Rows.fnExactParseComplexRow.domain false) (Rows.fnExactParseComplexSpec.post enc Try.prog Try.f8 false true false false) := by
  refine returnsInHanded_of_change (C := Try.checked) own started (by kernel_rfl) Try.func8
    (ChangeSpec.witness6 (enc := enc) (C := Try.checked) false ⟨#[], #[.string ⟨#[]⟩], []⟩ 8 (by kernel_rfl) (by kernel_rfl) (by kernel_rfl) (by kernel_rfl)) ?_
  intro W base args ds gs before hval0 hW hcnd _
  have hval : ∀ (j : Nat) t v, Try.f8.params[j]? = some t → args[j]? = some v → Value.okWide Try.prog W .any base t v := hval0
  have hW' := hW
  obtain ⟨p, q, hA0, hV, rfl, hfz, hnd⟩ := hW
  have hA : DataW.TrodAll enc Try.prog W 0 (fun _ => true) true Try.f8.params.toList args.toList ds p := hA0
  rw [Try.params8] at hA hval
  have hB := fun W' => back_all (enc := enc) (W' := W') laidOut _ _ _ _ (show AllR Try.prog [9] from ⟨⟨by kernel_rfl, of_decide_eq_true (by kernel_rfl)⟩, trivial⟩) hA
  obtain ⟨v0, vs0, d0, ds0, p0, q0, hargs, rfl, rfl, h0, r0⟩ := trodAll_cons hA
  obtain ⟨rfl, rfl, rfl⟩ := trodAll_nil r0
  obtain rfl : args = #[v0] := by cases args; simp_all
  obtain ⟨rfl, rfl⟩ := trodVars_none hV
  obtain ⟨s0, rfl, rfl, rfl, ws0⟩ := open_string Try.underlying9 (hval 0 9 v0 rfl rfl) h0
  obtain ⟨a0, rfl, bd0⟩ := str_of s0 ws0
  clear hA0 hval0
  refine (walk_FnExactParseComplex W a0 bd0).mono fun e W' ⟨he, bel⟩ => ?_
  subst he
  exact ⟨_, rfl, _, _, _, [], _, [], hW', trodAll_mk1 (shut_bool Try.underlying4 _), hB W' bel, rfl, bel.frame _, fun h => by cases h⟩

theorem FnExactParseComplex_holds : Rows.FnExactParseComplexSaid :=
  OpenClaim.holds_of_wide 8 Try.f8 rfl rfl rfl rfl rfl rfl rfl ⟨rfl, rfl, rfl, rfl, rfl⟩ rfl rfl rfl rfl rfl (by kernel_rfl) Try.func8 (by kernel_rfl)
    (of_decide_eq_true (by kernel_rfl)) (by unfold Func.isWrapper; first | (rw [if_pos (by decide +kernel)]; kernel_rfl) | (rw [if_neg (by decide +kernel)]; exact ⟨rfl, rfl⟩))
    (fun os started H enc _ => lifted_FnExactParseComplex os started H enc)
end Go.Proofs.Ytmkacjpjcfffmaa
