/- The law FnExactSubsetsOf: the program's SubsetsOf returns what the reference's returns, whatever the arguments. No condition. -/
import Derived.Test.YtjbojjjajnoidaaW2
import Derived.Test.YtjbojjjajnoidaaW6
import Derived.Test.YtjbojjjajnoidaaW9
import Derived.Test.YtjbojjjajnoidaaOpen
namespace Go.Proofs.Ytjbojjjajnoidaa
open Go.ChangeShapes Go.WideShapes Go.ChangeAt Go.RowKit
open Go.ChangeMaps (open_string shut_string)
set_option linter.unusedVariables false

theorem walk_FnExactSubsetsOf (w : World) (a0 : Int) (bd0 : -9223372036854775808 ≤ a0 ∧ a0 ≤ 9223372036854775807) : Calls Try.prog 10 #[.int .i64 a0] w fun e w' => RetB w true e w' := by
  have hn : (zs (subsetsOf a0)).length ≤ 448 := by rw [List.length_map]; exact subsetsOf_len _
  generalize hxs : zs (subsetsOf a0) = xs at hn
  have Hxs := hide hxs
  clear hxs
  have hd : decide (xs = xs) = true := decide_eq_true rfl
  go_enter Try.func10, Try.ntmps10
  go_wp2_with fail
  refine (subsetsOfS _ _).mono ?_
  rw [Hxs.out]
  rintro e w1 ⟨vw, rfl, ow, b1⟩
  have c0_1 := b1
  have rw1 := own_reads ow
  go_wp2_with fail
  refine (subsetsOfI _ _).mono ?_
  rw [Hxs.out]
  rintro e w2 ⟨vg, rfl, og, b2⟩
  have c0_2 := nxt c0_1 b2
  have c1_2 := b2
  go_wp2_with fail
  refine (eqIntS_any vg vw xs xs _ (own_reads og) (now_ rw1 c1_2) (by omega) (by omega)).mono ?_
  rintro e w3 ⟨rfl, b3⟩
  have c0_3 := nxt c0_2 b3
  have c1_3 := nxt c1_2 b3
  have og_3 := own_below og b3
  go_wp2_with fail
  refine (markIntS_any vg xs 1 _ og_3 (by omega) (by omega) (by omega)).mono ?_
  rintro e w4 ⟨rfl, og_4, g4⟩
  have c0_4 := c0_3.trans (grown_below (B := w.heap.size) g4 c0_3.size (fun k hk => Nat.le_trans c0_1.size (own_block og_3 k hk).1))
  have c1_4 := c1_3.trans (grown_below (B := w1.heap.size) g4 c1_3.size (fun k hk => (own_block og_3 k hk).1))
  go_wp2_with fail
  refine (heldIntS_yes vg xs.length 1 _ (own_reads og_4) (by omega) (by omega) (by omega)).mono ?_
  rintro e w5 ⟨rfl, b5⟩
  have c0_5 := nxt c0_4 b5
  have c1_5 := nxt c1_4 b5
  have og_5 := own_below og_4 b5
  go_wp2_with fail
  refine (subsetsOfI _ _).mono ?_
  rw [Hxs.out]
  rintro e w6 ⟨vh, rfl, oh, b6⟩
  have c0_6 := nxt c0_5 b6
  have c1_6 := nxt c1_5 b6
  have og_6 := own_below og_5 b6
  go_wp2_with fail
  refine (eqIntS_any vh vw xs xs _ (own_reads oh) (now_ rw1 c1_6) (by omega) (by omega)).mono ?_
  rintro e w7 ⟨rfl, b7⟩
  have c0_7 := nxt c0_6 b7
  have c1_7 := nxt c1_6 b7
  have og_7 := own_below og_6 b7
  go_wp2_with fail
  refine (heldIntS_yes vg xs.length 1 _ (own_reads og_7) (by omega) (by omega) (by omega)).mono ?_
  rintro e w8 ⟨rfl, b8⟩
  have c0_8 := nxt c0_7 b8
  have c1_8 := nxt c1_7 b8
  have og_8 := own_below og_7 b8
  go_wp2
  go_ret
  exact ⟨rfl, c0_8⟩

set_option maxRecDepth 100000 in
theorem lifted_FnExactSubsetsOf (os : Os) (started : os.Started) (H : Type) (enc : TypeId × Value → H) :
    ReturnsInHanded {} Try.checked os 10 .any (Rows.fnExactSubsetsOfSpec.pre6 enc Try.prog Try.f10 Rows.fnExactSubsetsOfRow.domain false) (Rows.fnExactSubsetsOfSpec.post enc Try.prog Try.f10 false true false false) := by
  refine returnsInHanded_of_change (C := Try.checked) own started (by kernel_rfl) Try.func10
    (ChangeSpec.witness6 (enc := enc) (C := Try.checked) false ⟨#[], #[.int .i64 0], []⟩ 8 (by kernel_rfl) (by kernel_rfl) (by kernel_rfl) (by kernel_rfl)) ?_
  intro W base args ds gs before hval0 hW hcnd _
  have hval : ∀ (j : Nat) t v, Try.f10.params[j]? = some t → args[j]? = some v → Value.okWide Try.prog W .any base t v := hval0
  have hW' := hW
  obtain ⟨p, q, hA0, hV, rfl, hfz, hnd⟩ := hW
  have hA : DataW.TrodAll enc Try.prog W 0 (fun _ => true) true Try.f10.params.toList args.toList ds p := hA0
  rw [Try.params10] at hA hval
  have hB := fun W' => back_all (enc := enc) (W' := W') laidOut _ _ _ _ (show AllR Try.prog [3] from ⟨⟨by kernel_rfl, of_decide_eq_true (by kernel_rfl)⟩, trivial⟩) hA
  obtain ⟨v0, vs0, d0, ds0, p0, q0, hargs, rfl, rfl, h0, r0⟩ := trodAll_cons hA
  obtain ⟨rfl, rfl, rfl⟩ := trodAll_nil r0
  obtain rfl : args = #[v0] := by cases args; simp_all
  obtain ⟨rfl, rfl⟩ := trodVars_none hV
  obtain ⟨a0, rfl, rfl, rfl, wf0⟩ := open_int Try.underlying3 (hval 0 3 v0 rfl rfl) h0
  have bd0 := wf_i64 wf0
  clear hA0 hval0
  refine (walk_FnExactSubsetsOf W a0 bd0).mono fun e W' ⟨he, bel⟩ => ?_
  subst he
  exact ⟨_, rfl, _, _, _, [], _, [], hW', trodAll_mk1 (shut_bool Try.underlying4 _), hB W' bel, rfl, bel.frame _, fun h => by cases h⟩

theorem FnExactSubsetsOf_holds : Rows.FnExactSubsetsOfSaid :=
  OpenClaim.holds_of_wide 10 Try.f10 rfl rfl rfl rfl rfl rfl rfl ⟨rfl, rfl, rfl, rfl, rfl⟩ rfl rfl rfl rfl rfl (by kernel_rfl) Try.func10 (by kernel_rfl)
    (of_decide_eq_true (by kernel_rfl)) (by unfold Func.isWrapper; first | (rw [if_pos (by decide +kernel)]; kernel_rfl) | (rw [if_neg (by decide +kernel)]; exact ⟨rfl, rfl⟩))
    (fun os started H enc _ => lifted_FnExactSubsetsOf os started H enc)
end Go.Proofs.Ytjbojjjajnoidaa
