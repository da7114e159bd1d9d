/- The law FnExactMinimalSets: the program's MinimalSets returns what the reference's returns, whatever the arguments. No condition. -/
import Derived.Test.YtjbojjjajnoidaaW8
import Derived.Test.YtjbojjjajnoidaaW6
import Derived.Test.YtjbojjjajnoidaaW9
import Derived.Test.YtjbojjjajnoidaaOpen
namespace Go.Proofs.Ytjbojjjajnoidaa
open Go.ChangeShapes Go.WideShapes Go.ChangeAt Go.RowKit
open Go.ChangeMaps (open_string shut_string)
set_option linter.unusedVariables false

theorem walk_FnExactMinimalSets (w : World) (v0 : Value) (xs0 : List Int) (rd0 : IntsAt w w.heap.size v0 xs0) (bl0 : xs0.length ≤ 9223372036854775807) (bx0 : ∀ x ∈ xs0, -9223372036854775808 ≤ x ∧ x ≤ 9223372036854775807) : Calls Try.prog 13 #[v0] w fun e w' => RetB w true e w' := by
  obtain ⟨A0, c0, rfl⟩ := reads_shape rd0
  have Rd0 := hide rd0
  clear rd0
  by_cases hgd : 1048576 < xs0.length
  · go_enter Try.func13, Try.ntmps13
    go_wp2
    go_ret
    exact ⟨rfl, Below.refl _ _⟩
  have hgd2 : xs0.length ≤ 1048576 := by omega
  clear hgd
  have hn : (zs (minSets xs0)).length ≤ 448 := by rw [List.length_map]; exact minSets_len _
  generalize hxs : zs (minSets xs0) = xs at hn
  have Hxs := hide hxs
  clear hxs
  have hd : decide (xs = xs) = true := decide_eq_true rfl
  have hd0 : decide (xs0 = xs0) = true := decide_eq_true rfl
  go_enter Try.func13, Try.ntmps13
  go_wp2_with fail
  refine (toIntS_any _ xs0 _ Rd0.out (by omega)).mono ?_
  rintro e w1 ⟨vt, rfl, ot, b1⟩
  have c0_1 := b1
  go_wp2_with fail
  refine (minimalSetsS vt xs0 _ (own_reads ot) (by omega)).mono ?_
  rw [Hxs.out]
  rintro e w2 ⟨vw, rfl, ow, b2⟩
  have c0_2 := nxt c0_1 b2
  have rw1 := own_reads ow
  go_wp2_with fail
  refine (toIntS_any _ xs0 _ (now_ Rd0.out c0_2) (by omega)).mono ?_
  rintro e w3 ⟨vx, rfl, ox, b3⟩
  have c0_3 := nxt c0_2 b3
  have c2_3 := b3
  go_wp2_with fail
  refine (minimalSetsI vx xs0 _ (own_reads ox) (by omega)).mono ?_
  rw [Hxs.out]
  rintro e w4 ⟨vg, rfl, og, b4⟩
  have c0_4 := nxt c0_3 b4
  have c2_4 := nxt c2_3 b4
  have ox_4 := own_below ox b4
  go_wp2_with fail
  refine (eqIntS_any vg vw xs xs _ (own_reads og) (now_ rw1 c2_4) (by omega) (by omega)).mono ?_
  rintro e w5 ⟨rfl, b5⟩
  have c0_5 := nxt c0_4 b5
  have c2_5 := nxt c2_4 b5
  have ox_5 := own_below ox_4 b5
  have og_5 := own_below og b5
  go_wp2_with fail
  refine (toIntS_any _ xs0 _ (now_ Rd0.out c0_5) (by omega)).mono ?_
  rintro e w6 ⟨vt2, rfl, ot2, b6⟩
  have c0_6 := nxt c0_5 b6
  have c2_6 := nxt c2_5 b6
  have ox_6 := own_below ox_5 b6
  have og_6 := own_below og_5 b6
  go_wp2_with fail
  refine (eqIntS_any vx vt2 xs0 xs0 _ (own_reads ox_6) (own_reads ot2) (by omega) (by omega)).mono ?_
  rintro e w7 ⟨rfl, b7⟩
  have c0_7 := nxt c0_6 b7
  have c2_7 := nxt c2_6 b7
  have ox_7 := own_below ox_6 b7
  have og_7 := own_below og_6 b7
  go_wp2_with fail
  refine (markIntS_any vx xs0 1 _ ox_7 (by omega) (by omega) (by omega)).mono ?_
  rintro e w8 ⟨rfl, ox_8, g8⟩
  have c0_8 := c0_7.trans (grown_below (B := w.heap.size) g8 c0_7.size (fun k hk => Nat.le_trans c0_2.size (own_block ox_7 k hk).1))
  have c2_8 := c2_7.trans (grown_below (B := w2.heap.size) g8 c2_7.size (fun k hk => (own_block ox_7 k hk).1))
  have og_8 := own_grown og_7 g8 (fun k hk he => by have h1 := (own_block og_7 k hk).1; have h2 := (own_block ox k he).2; omega)
  go_wp2_with fail
  refine (eqIntS_any vg vw xs xs _ (own_reads og_8) (now_ rw1 c2_8) (by omega) (by omega)).mono ?_
  rintro e w9 ⟨rfl, b9⟩
  have c0_9 := nxt c0_8 b9
  have c2_9 := nxt c2_8 b9
  have ox_9 := own_below ox_8 b9
  have og_9 := own_below og_8 b9
  go_wp2_with fail
  refine (markIntS_any vg xs 1 _ og_9 (by omega) (by omega) (by omega)).mono ?_
  rintro e w10 ⟨rfl, og_10, g10⟩
  have c0_10 := c0_9.trans (grown_below (B := w.heap.size) g10 c0_9.size (fun k hk => Nat.le_trans c0_3.size (own_block og_9 k hk).1))
  have c2_10 := c2_9.trans (grown_below (B := w2.heap.size) g10 c2_9.size (fun k hk => Nat.le_trans c2_3.size (own_block og_9 k hk).1))
  go_wp2_with fail
  refine (heldIntS_yes vg xs.length 1 _ (own_reads og_10) (by omega) (by omega) (by omega)).mono ?_
  rintro e w11 ⟨rfl, b11⟩
  have c0_11 := nxt c0_10 b11
  have c2_11 := nxt c2_10 b11
  have og_11 := own_below og_10 b11
  go_wp2_with fail
  refine (toIntS_any _ xs0 _ (now_ Rd0.out c0_11) (by omega)).mono ?_
  rintro e w12 ⟨vt3, rfl, ot3, b12⟩
  have c0_12 := nxt c0_11 b12
  have c2_12 := nxt c2_11 b12
  have og_12 := own_below og_11 b12
  go_wp2_with fail
  refine (minimalSetsI vt3 xs0 _ (own_reads ot3) (by omega)).mono ?_
  rw [Hxs.out]
  rintro e w13 ⟨vh, rfl, oh, b13⟩
  have c0_13 := nxt c0_12 b13
  have c2_13 := nxt c2_12 b13
  have og_13 := own_below og_12 b13
  go_wp2_with fail
  refine (eqIntS_any vh vw xs xs _ (own_reads oh) (now_ rw1 c2_13) (by omega) (by omega)).mono ?_
  rintro e w14 ⟨rfl, b14⟩
  have c0_14 := nxt c0_13 b14
  have c2_14 := nxt c2_13 b14
  have og_14 := own_below og_13 b14
  go_wp2_with fail
  refine (heldIntS_yes vg xs.length 1 _ (own_reads og_14) (by omega) (by omega) (by omega)).mono ?_
  rintro e w15 ⟨rfl, b15⟩
  have c0_15 := nxt c0_14 b15
  have c2_15 := nxt c2_14 b15
  have og_15 := own_below og_14 b15
  go_wp2
  go_ret
  exact ⟨rfl, c0_15⟩

set_option maxRecDepth 100000 in
theorem lifted_FnExactMinimalSets (os : Os) (started : os.Started) (H : Type) (enc : TypeId × Value → H) :
    ReturnsInHanded {} Try.checked os 13 .any (Rows.fnExactMinimalSetsSpec.pre6 enc Try.prog Try.f13 Rows.fnExactMinimalSetsRow.domain false) (Rows.fnExactMinimalSetsSpec.post enc Try.prog Try.f13 false true false false) := by
  refine returnsInHanded_of_change (C := Try.checked) own started (by kernel_rfl) Try.func13
    (ChangeSpec.witness6 (enc := enc) (C := Try.checked) false ⟨#[], #[.slice none 0 0], []⟩ 8 (by kernel_rfl) (by kernel_rfl) (by kernel_rfl) (by kernel_rfl)) ?_
  intro W base args ds gs before hval0 hW hcnd _
  have hval : ∀ (j : Nat) t v, Try.f13.params[j]? = some t → args[j]? = some v → Value.okWide Try.prog W .any base t v := hval0
  have hW' := hW
  obtain ⟨p, q, hA0, hV, rfl, hfz, hnd⟩ := hW
  have hA : DataW.TrodAll enc Try.prog W 0 (fun _ => true) true Try.f13.params.toList args.toList ds p := hA0
  rw [Try.params13] at hA hval
  have hB := fun W' => back_all (enc := enc) (W' := W') laidOut _ _ _ _ (show AllR Try.prog [28] from ⟨⟨by kernel_rfl, of_decide_eq_true (by kernel_rfl)⟩, trivial⟩) hA
  obtain ⟨v0, vs0, d0, ds0, p0, q0, hargs, rfl, rfl, h0, r0⟩ := trodAll_cons hA
  obtain ⟨rfl, rfl, rfl⟩ := trodAll_nil r0
  obtain rfl : args = #[v0] := by cases args; simp_all
  obtain ⟨rfl, rfl⟩ := trodVars_none hV
  obtain ⟨xs0, rd0, bl0, bx0⟩ := openInts Try.underlying28 Try.underlying3 (by kernel_rfl) h0 (okWide_slice Try.underlying28 (hval 0 28 v0 rfl rfl))
  clear hA0 hval0
  refine (walk_FnExactMinimalSets W v0 xs0 rd0 bl0 bx0).mono fun e W' ⟨he, bel⟩ => ?_
  subst he
  exact ⟨_, rfl, _, _, _, [], _, [], hW', trodAll_mk1 (shut_bool Try.underlying4 _), hB W' bel, rfl, bel.frame _, fun h => by cases h⟩

theorem FnExactMinimalSets_holds : Rows.FnExactMinimalSetsSaid :=
  OpenClaim.holds_of_wide 13 Try.f13 rfl rfl rfl rfl rfl rfl rfl ⟨rfl, rfl, rfl, rfl, rfl⟩ rfl rfl rfl rfl rfl (by kernel_rfl) Try.func13 (by kernel_rfl)
    (of_decide_eq_true (by kernel_rfl)) (by unfold Func.isWrapper; first | (rw [if_pos (by decide +kernel)]; kernel_rfl) | (rw [if_neg (by decide +kernel)]; exact ⟨rfl, rfl⟩))
    (fun os started H enc _ => lifted_FnExactMinimalSets os started H enc)
end Go.Proofs.Ytjbojjjajnoidaa
