/- The law FnExactJoin. No condition. -/
import Derived.Test.YtmkacjpjcfffmaaW51
import Derived.Test.YtmkacjpjcfffmaaW8
import Derived.Test.YtmkacjpjcfffmaaBox
import Derived.Test.YtmkacjpjcfffmaaOpen2
namespace Go.Proofs.Ytmkacjpjcfffmaa
open Go.ChangeShapes Go.WideShapes Go.ChangeAt Go.RowKit
open Go.ChangeMaps (open_string shut_string)
set_option linter.unusedVariables false

theorem walk_FnExactJoin (w : World) (v0 : Value) (ls0 : List (List UInt8)) (rd0 : StrsAt w w.heap.size v0 ls0) (bl0 : ls0.length ≤ 9223372036854775807) (bs0 : ∀ l ∈ ls0, l.length ≤ 9223372036854775807) (a1 : List UInt8) (bd1 : a1.length ≤ 9223372036854775807) : Calls Try.prog 5 #[v0, .string ⟨a1.toArray⟩] w fun e w' => RetB w true e w' := by
  obtain ⟨A0, k0, rfl, hk0, hrest⟩ := formS_ rd0
  clear hrest
  by_cases hgd : 1048576 < a1.length
  · go_enter Try.func5, Try.ntmps5
    go_wp2
    go_ret
    exact ⟨rfl, Below.refl _ _⟩
  have hgd2 : a1.length ≤ 1048576 := by omega
  clear hgd
  have Rd0 := hide rd0
  have Bs0 := hide bs0
  clear rd0 bs0
  by_cases hsz : (1048576 : Int) < (szOf ls0 : Int)
  · go_enter Try.func5, Try.ntmps5
    go_wp2_with fail
    refine (szStringS_any _ ls0 _ w Rd0.out bl0 Bs0.out (by omega) (by omega)).mono ?_
    rw [if_pos hsz]
    rintro e w1 ⟨rfl, b1⟩
    have C1 := hide b1
    go_wp2
    go_ret
    exact ⟨rfl, C1.out⟩
  have hszn : szOf ls0 ≤ 1048576 := by omega
  have hll : ls0.length ≤ 1048576 := by unfold szOf at hszn; omega
  have hlens : Lib.lens ls0 ≤ 1048576 := by unfold szOf at hszn; omega
  have hbd : Lib.lens ls0 + ls0.length * a1.length ≤ 70368744177664 := by
    have := Nat.mul_le_mul hll hgd2
    omega
  have Hbd := hide hbd
  clear hbd
  generalize hxs : Lib.join ls0 a1 = x
  have Hxs := hide hxs
  clear hxs
  have hne : (x == x) = true := by simp
  go_enter Try.func5, Try.ntmps5
  go_wp2_with fail
  refine (szStringS_any _ ls0 _ w Rd0.out bl0 Bs0.out (by omega) (by omega)).mono ?_
  rw [if_neg (show ¬ (1048576 : Int) < (szOf ls0 : Int) by omega)]
  rintro e w0 ⟨rfl, b0⟩
  have C0 := hide b0
  clear b0
  go_wp2_with fail
  refine (toStringS_any _ ls0 w0 (nowS_ Rd0.out C0.out) (by omega)).mono ?_
  rintro e w1 ⟨v1, rfl, o1, b1⟩
  have C1 := hide (nxt C0.out b1)
  go_wp2_with fail
  refine (joinS _ ls0 a1 w1 (own_reads o1) (by omega) Hbd.out).mono ?_
  rw [Hxs.out]
  rintro e w2 ⟨rfl, b2⟩
  have C2 := hide (nxt C1.out b2)
  clear b1 b2 o1
  go_wp2_with fail
  refine (toStringS_any _ ls0 w2 (nowS_ Rd0.out C2.out) (by omega)).mono ?_
  rintro e w3 ⟨v3, rfl, o3, b3⟩
  have C3 := hide (nxt C2.out b3)
  have O3 := hide o3
  clear b3 o3
  go_wp2_with fail
  refine (joinI _ ls0 a1 w3 (own_reads O3.out) (by omega) Hbd.out).mono ?_
  rw [Hxs.out]
  rintro e w4 ⟨rfl, b4⟩
  have C4 := hide (nxt C3.out b4)
  have O4 := hide (own_below O3.out b4)
  clear b4
  go_wp2_with fail
  refine (toStringS_any _ ls0 w4 (nowS_ Rd0.out C4.out) (by omega)).mono ?_
  rintro e w5 ⟨v5, rfl, o5, b5⟩
  have C5 := hide (nxt C4.out b5)
  have O5 := hide (own_below O4.out b5)
  have O5b := hide o5
  clear b5 o5
  go_wp2_with fail
  refine (eqStringS_any _ _ ls0 ls0 w5 (own_reads O5.out) (own_reads O5b.out) (by omega)).mono ?_
  rw [show decide (ls0 = ls0) = true by simp]
  rintro e w6 ⟨rfl, b6⟩
  have C6 := hide (nxt C5.out b6)
  clear b6
  go_wp2
  go_ret
  exact ⟨rfl, C6.out⟩

set_option maxRecDepth 100000 in
theorem lifted_FnExactJoin (os : Os) (started : os.Started) (H : Type) (enc : TypeId × Value → H) :
    ReturnsInHanded {} Try.checked os 5 .any (Rows.fnExactJoinSpec.pre6 enc Try.prog Try.f5 Rows.fnExactJoinRow.domain false) (Rows.fnExactJoinSpec.post enc Try.prog Try.f5 false true false false) := by
  refine returnsInHanded_of_change (C := Try.checked) own started (by kernel_rfl) Try.func5
    (ChangeSpec.witness6 (enc := enc) (C := Try.checked) false ⟨#[], #[.slice none 0 0, .string ⟨#[]⟩], []⟩ 8 (by kernel_rfl) (by kernel_rfl) (by kernel_rfl) (by kernel_rfl)) ?_
  intro W base args ds gs before hval0 hW hcnd _
  have hval : ∀ (j : Nat) t v, Try.f5.params[j]? = some t → args[j]? = some v → Value.okWide Try.prog W .any base t v := hval0
  have hW' := hW
  obtain ⟨p, q, hA0, hV, rfl, hfz, hnd⟩ := hW
  have hA : DataW.TrodAll enc Try.prog W 0 (fun _ => true) true Try.f5.params.toList args.toList ds p := hA0
  rw [Try.params5] at hA hval
  have hB := fun W' => back_all (enc := enc) (W' := W') laidOut _ _ _ _ (show AllR Try.prog [25, 9] from ⟨⟨by kernel_rfl, of_decide_eq_true (by kernel_rfl)⟩, ⟨⟨by kernel_rfl, of_decide_eq_true (by kernel_rfl)⟩, trivial⟩⟩) hA
  obtain ⟨v0, vs0, d0, ds0, p0, q0, hargs, rfl, rfl, h0, r0⟩ := trodAll_cons hA
  obtain ⟨v1, vs1, d1, ds1, p1, q1, rfl, rfl, rfl, h1, r1⟩ := trodAll_cons r0
  obtain ⟨rfl, rfl, rfl⟩ := trodAll_nil r1
  obtain rfl : args = #[v0, v1] := by cases args; simp_all
  obtain ⟨rfl, rfl⟩ := trodVars_none hV
  obtain ⟨ls0, rd0, bl0, bs0⟩ := openStrs Try.underlying25 Try.underlying9 (by kernel_rfl) h0 (okWide_slice Try.underlying25 (hval 0 25 v0 rfl rfl))
  obtain ⟨s1, rfl, rfl, rfl, ws1⟩ := open_string Try.underlying9 (hval 1 9 v1 rfl rfl) h1
  obtain ⟨a1, rfl, bd1⟩ := str_of s1 ws1
  clear hA0 hval0
  refine (walk_FnExactJoin W v0 ls0 rd0 bl0 bs0 a1 bd1).mono fun e W' ⟨he, bel⟩ => ?_
  subst he
  exact ⟨_, rfl, _, _, _, [], _, [], hW', trodAll_mk1 (shut_bool Try.underlying4 _), hB W' bel, rfl, bel.frame _, fun h => by cases h⟩

theorem FnExactJoin_holds : Rows.FnExactJoinSaid :=
  OpenClaim.holds_of_wide 5 Try.f5 rfl rfl rfl rfl rfl rfl rfl ⟨rfl, rfl, rfl, rfl, rfl⟩ rfl rfl rfl rfl rfl (by kernel_rfl) Try.func5 (by kernel_rfl)
    (of_decide_eq_true (by kernel_rfl)) (by unfold Func.isWrapper; first | (rw [if_pos (by decide +kernel)]; kernel_rfl) | (rw [if_neg (by decide +kernel)]; exact ⟨rfl, rfl⟩))
    (fun os started H enc _ => lifted_FnExactJoin os started H enc)
end Go.Proofs.Ytmkacjpjcfffmaa
