/- The law FnExactSetsText. No condition. -/
import Derived.Test.YtmkacjpjcfffmaaW51
import Derived.Test.YtmkacjpjcfffmaaW8
import Derived.Test.YtmkacjpjcfffmaaBox
import Derived.Test.YtmkacjpjcfffmaaOpen
namespace Go.Proofs.Ytmkacjpjcfffmaa
open Go.ChangeShapes Go.WideShapes Go.ChangeAt Go.RowKit
open Go.ChangeMaps (open_string shut_string)
set_option linter.unusedVariables false

theorem walk_FnExactSetsText (w : World) (v0 : Value) (xs0 : List Int) (rd0 : IntsAt w w.heap.size v0 xs0) (bl0 : xs0.length ≤ 9223372036854775807) (bx0 : ∀ x ∈ xs0, -9223372036854775808 ≤ x ∧ x ≤ 9223372036854775807) : Calls Try.prog 7 #[v0] w fun e w' => RetB w true e w' := by
  by_cases hgd : 1048576 < xs0.length
  · obtain ⟨A0, k0, rfl⟩ := reads_shape rd0
    go_enter Try.func7, Try.ntmps7
    go_wp2
    go_ret
    exact ⟨rfl, Below.refl _ _⟩
  have hgd2 : xs0.length ≤ 1048576 := by omega
  obtain ⟨A0, k0, rfl⟩ := reads_shape rd0
  have Rd0 := hide rd0
  clear hgd rd0
  generalize hxs : setsTxt xs0 = x
  have Hxs := hide hxs
  clear hxs
  have hne : (x == x) = true := by simp
  go_enter Try.func7, Try.ntmps7
  go_wp2_with fail
  refine (toIntS_any _ xs0 w Rd0.out (by omega)).mono ?_
  rintro e w1 ⟨v1, rfl, o1, b1⟩
  have C1 := hide b1
  go_wp2_with fail
  refine (setsTextS _ xs0 w1 (own_reads o1) (by omega)).mono ?_
  rw [Hxs.out]
  rintro e w2 ⟨rfl, b2⟩
  have C2 := hide (nxt C1.out b2)
  clear b1 b2 o1
  go_wp2_with fail
  refine (toIntS_any _ xs0 w2 (now_ Rd0.out C2.out) (by omega)).mono ?_
  rintro e w3 ⟨v3, rfl, o3, b3⟩
  have C3 := hide (nxt C2.out b3)
  have O3 := hide o3
  clear b3 o3
  go_wp2_with fail
  refine (setsTextI _ xs0 w3 (own_reads O3.out) (by omega)).mono ?_
  rw [Hxs.out]
  rintro e w4 ⟨rfl, b4⟩
  have C4 := hide (nxt C3.out b4)
  have O4 := hide (own_below O3.out b4)
  clear b4
  go_wp2_with fail
  refine (toIntS_any _ xs0 w4 (now_ Rd0.out C4.out) (by omega)).mono ?_
  rintro e w5 ⟨v5, rfl, o5, b5⟩
  have C5 := hide (nxt C4.out b5)
  have O5 := hide (own_below O4.out b5)
  have O5b := hide o5
  clear b5 o5
  go_wp2_with fail
  refine (eqIntS_same _ _ xs0 w5 (own_reads O5.out) (own_reads O5b.out) (by omega)).mono ?_
  rintro e w6 ⟨rfl, b6⟩
  have C6 := hide (nxt C5.out b6)
  clear b6
  go_wp2
  go_ret
  exact ⟨rfl, C6.out⟩

set_option maxRecDepth 100000 in
theorem lifted_FnExactSetsText (os : Os) (started : os.Started) (H : Type) (enc : TypeId × Value → H) :
    ReturnsInHanded {} Try.checked os 7 .any (Rows.fnExactSetsTextSpec.pre6 enc Try.prog Try.f7 Rows.fnExactSetsTextRow.domain false) (Rows.fnExactSetsTextSpec.post enc Try.prog Try.f7 false true false false) := by
  refine returnsInHanded_of_change (C := Try.checked) own started (by kernel_rfl) Try.func7
    (ChangeSpec.witness6 (enc := enc) (C := Try.checked) false ⟨#[], #[.slice none 0 0], []⟩ 8 (by kernel_rfl) (by kernel_rfl) (by kernel_rfl) (by kernel_rfl)) ?_
  intro W base args ds gs before hval0 hW hcnd _
  have hval : ∀ (j : Nat) t v, Try.f7.params[j]? = some t → args[j]? = some v → Value.okWide Try.prog W .any base t v := hval0
  have hW' := hW
  obtain ⟨p, q, hA0, hV, rfl, hfz, hnd⟩ := hW
  have hA : DataW.TrodAll enc Try.prog W 0 (fun _ => true) true Try.f7.params.toList args.toList ds p := hA0
  rw [Try.params7] at hA hval
  have hB := fun W' => back_all (enc := enc) (W' := W') laidOut _ _ _ _ (show AllR Try.prog [36] from ⟨⟨by kernel_rfl, of_decide_eq_true (by kernel_rfl)⟩, trivial⟩) hA
  obtain ⟨v0, vs0, d0, ds0, p0, q0, hargs, rfl, rfl, h0, r0⟩ := trodAll_cons hA
  obtain ⟨rfl, rfl, rfl⟩ := trodAll_nil r0
  obtain rfl : args = #[v0] := by cases args; simp_all
  obtain ⟨rfl, rfl⟩ := trodVars_none hV
  obtain ⟨xs0, rd0, bl0, bx0⟩ := openInts Try.underlying36 Try.underlying3 (by kernel_rfl) h0 (okWide_slice Try.underlying36 (hval 0 36 v0 rfl rfl))
  clear hA0 hval0
  refine (walk_FnExactSetsText W v0 xs0 rd0 bl0 bx0).mono fun e W' ⟨he, bel⟩ => ?_
  subst he
  exact ⟨_, rfl, _, _, _, [], _, [], hW', trodAll_mk1 (shut_bool Try.underlying4 _), hB W' bel, rfl, bel.frame _, fun h => by cases h⟩

theorem FnExactSetsText_holds : Rows.FnExactSetsTextSaid :=
  OpenClaim.holds_of_wide 7 Try.f7 rfl rfl rfl rfl rfl rfl rfl ⟨rfl, rfl, rfl, rfl, rfl⟩ rfl rfl rfl rfl rfl (by kernel_rfl) Try.func7 (by kernel_rfl)
    (of_decide_eq_true (by kernel_rfl)) (by unfold Func.isWrapper; first | (rw [if_pos (by decide +kernel)]; kernel_rfl) | (rw [if_neg (by decide +kernel)]; exact ⟨rfl, rfl⟩))
    (fun os started H enc _ => lifted_FnExactSetsText os started H enc)
end Go.Proofs.Ytmkacjpjcfffmaa
