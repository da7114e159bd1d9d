/- The law FnExactParseInt: the program's ParseInt returns what the reference's returns, whatever the arguments. No condition. -/
import Derived.Test.YtmkacjpjcfffmaaW35
import Derived.Test.YtmkacjpjcfffmaaOpen
namespace Go.Proofs.Ytmkacjpjcfffmaa
open Go.ChangeShapes Go.WideShapes Go.ChangeAt Go.RowKit
open Go.ChangeMaps (open_string shut_string)
set_option linter.unusedVariables false

theorem walk_FnExactParseInt (w : World) (a0 : List UInt8) (bd0 : a0.length ≤ 9223372036854775807) : Calls Try.prog 4 #[.string ⟨a0.toArray⟩] w fun e w' => RetB w true e w' := by
  by_cases hgd : 1048576 < a0.length
  · go_enter Try.func4, Try.ntmps4
    go_wp2
    go_ret
    exact ⟨rfl, Below.refl _ _⟩
  have hgd2 : a0.length ≤ 1048576 := by omega
  clear hgd
  generalize hxs : piVal a0 = n
  generalize hys : piOk a0 = b
  have Hxs := hide hxs
  have Hys := hide hys
  clear hxs hys
  have hne : (n != n) = false := by simp
  have hne2 : (b != b) = false := by cases b <;> rfl
  go_enter Try.func4, Try.ntmps4
  go_wp2_with fail
  refine (parseIntS _ _ (by omega)).mono ?_
  rw [Hxs.out, Hys.out]
  rintro e w1 ⟨rfl, b1⟩
  have c0_1 := b1
  go_wp2_with fail
  refine (parseIntI2 _ _ (by omega)).mono ?_
  rw [Hxs.out, Hys.out]
  rintro e w2 ⟨rfl, b2⟩
  have c0_2 := nxt c0_1 b2
  go_wp2
  go_ret
  exact ⟨rfl, c0_2⟩

set_option maxRecDepth 100000 in
theorem lifted_FnExactParseInt (os : Os) (started : os.Started) (H : Type) (enc : TypeId × Value → H) :
    ReturnsInHanded {} Try.checked os 4 .any (Rows.fnExactParseIntSpec.pre6 enc Try.prog Try.f4 Rows.fnExactParseIntRow.domain false) (Rows.fnExactParseIntSpec.post enc Try.prog Try.f4 false true false false) := by
  refine returnsInHanded_of_change (C := Try.checked) own started (by kernel_rfl) Try.func4
    (ChangeSpec.witness6 (enc := enc) (C := Try.checked) false ⟨#[], #[.string ⟨#[]⟩], []⟩ 8 (by kernel_rfl) (by kernel_rfl) (by kernel_rfl) (by kernel_rfl)) ?_
  intro W base args ds gs before hval0 hW hcnd _
  have hval : ∀ (j : Nat) t v, Try.f4.params[j]? = some t → args[j]? = some v → Value.okWide Try.prog W .any base t v := hval0
  have hW' := hW
  obtain ⟨p, q, hA0, hV, rfl, hfz, hnd⟩ := hW
  have hA : DataW.TrodAll enc Try.prog W 0 (fun _ => true) true Try.f4.params.toList args.toList ds p := hA0
  rw [Try.params4] at hA hval
  have hB := fun W' => back_all (enc := enc) (W' := W') laidOut _ _ _ _ (show AllR Try.prog [9] from ⟨⟨by kernel_rfl, of_decide_eq_true (by kernel_rfl)⟩, trivial⟩) hA
  obtain ⟨v0, vs0, d0, ds0, p0, q0, hargs, rfl, rfl, h0, r0⟩ := trodAll_cons hA
  obtain ⟨rfl, rfl, rfl⟩ := trodAll_nil r0
  obtain rfl : args = #[v0] := by cases args; simp_all
  obtain ⟨rfl, rfl⟩ := trodVars_none hV
  obtain ⟨s0, rfl, rfl, rfl, ws0⟩ := open_string Try.underlying9 (hval 0 9 v0 rfl rfl) h0
  obtain ⟨a0, rfl, bd0⟩ := str_of s0 ws0
  clear hA0 hval0
  refine (walk_FnExactParseInt W a0 bd0).mono fun e W' ⟨he, bel⟩ => ?_
  subst he
  exact ⟨_, rfl, _, _, _, [], _, [], hW', trodAll_mk1 (shut_bool Try.underlying4 _), hB W' bel, rfl, bel.frame _, fun h => by cases h⟩

theorem FnExactParseInt_holds : Rows.FnExactParseIntSaid :=
  OpenClaim.holds_of_wide 4 Try.f4 rfl rfl rfl rfl rfl rfl rfl ⟨rfl, rfl, rfl, rfl, rfl⟩ rfl rfl rfl rfl rfl (by kernel_rfl) Try.func4 (by kernel_rfl)
    (of_decide_eq_true (by kernel_rfl)) (by unfold Func.isWrapper; first | (rw [if_pos (by decide +kernel)]; kernel_rfl) | (rw [if_neg (by decide +kernel)]; exact ⟨rfl, rfl⟩))
    (fun os started H enc _ => lifted_FnExactParseInt os started H enc)
end Go.Proofs.Ytmkacjpjcfffmaa
