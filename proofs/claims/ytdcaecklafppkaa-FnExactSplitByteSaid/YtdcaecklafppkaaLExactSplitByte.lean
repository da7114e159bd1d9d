/- The law FnExactSplitByte: the program's SplitByte returns what the reference's returns, whatever the arguments. No condition. -/
import Derived.Test.YtdcaecklafppkaaW3
import Derived.Test.YtdcaecklafppkaaSplit
import Derived.Test.YtdcaecklafppkaaOpen
namespace Go.Proofs.Ytdcaecklafppkaa
open Go.ChangeShapes Go.WideShapes Go.ChangeAt Go.RowKit
open Go.ChangeMaps (open_string shut_string)
set_option linter.unusedVariables false

theorem walk_FnExactSplitByte (w : World) (a0 : List UInt8) (bd0 : a0.length ≤ 9223372036854775807) (a1 : UInt8) : Calls Try.prog 8 #[.string ⟨a0.toArray⟩, .int .u8 (a1.toNat : Int)] w fun e w' => RetB w true e w' := by
  by_cases hgd : 1048576 < a0.length
  · go_enter Try.func8, Try.ntmps8
    go_wp2
    go_ret
    exact ⟨rfl, Below.refl _ _⟩
  have hgd2 : a0.length ≤ 1048576 := by omega
  clear hgd
  have hn := splitB_len a1 a0
  generalize hxs : splitB a1 a0 = ls at hn
  have Hxs := hide hxs
  clear hxs
  have hd : decide (ls = ls) = true := decide_eq_true rfl
  go_enter Try.func8, Try.ntmps8
  go_wp2_with fail
  refine (splitByteS _ _ _ (by omega)).mono ?_
  rw [Hxs.out]
  rintro e w1 ⟨vw, rfl, ow, b1⟩
  have c0_1 := b1
  have rw1 := own_reads ow
  go_wp2_with fail
  refine (splitByteI _ _ _ (by omega)).mono ?_
  rw [Hxs.out]
  rintro e w2 ⟨vg, rfl, og, b2⟩
  have c0_2 := nxt c0_1 b2
  have c1_2 := b2
  go_wp2_with fail
  refine (eqStringS_any vg vw ls ls _ (own_reads og) (nowS_ rw1 c1_2) (by omega)).mono ?_
  rintro e w3 ⟨rfl, b3⟩
  have c0_3 := nxt c0_2 b3
  have c1_3 := nxt c1_2 b3
  have og_3 := own_below og b3
  go_wp2_with fail
  refine (markStringS_any vg ls 1 _ og_3 (by omega) (by omega) (by omega)).mono ?_
  rintro e w4 ⟨rfl, og_4, g4⟩
  have c0_4 := c0_3.trans (grown_below (B := w.heap.size) g4 c0_3.size (fun k hk => Nat.le_trans c0_1.size (own_block og_3 k hk).1))
  have c1_4 := c1_3.trans (grown_below (B := w1.heap.size) g4 c1_3.size (fun k hk => (own_block og_3 k hk).1))
  go_wp2_with fail
  refine (heldStringS_yes vg ls.length 1 _ (own_reads og_4) (by omega) (by omega) (by omega)).mono ?_
  rintro e w5 ⟨rfl, b5⟩
  have c0_5 := nxt c0_4 b5
  have c1_5 := nxt c1_4 b5
  have og_5 := own_below og_4 b5
  go_wp2_with fail
  refine (splitByteI _ _ _ (by omega)).mono ?_
  rw [Hxs.out]
  rintro e w6 ⟨vh, rfl, oh, b6⟩
  have c0_6 := nxt c0_5 b6
  have c1_6 := nxt c1_5 b6
  have og_6 := own_below og_5 b6
  go_wp2_with fail
  refine (eqStringS_any vh vw ls ls _ (own_reads oh) (nowS_ rw1 c1_6) (by omega)).mono ?_
  rintro e w7 ⟨rfl, b7⟩
  have c0_7 := nxt c0_6 b7
  have c1_7 := nxt c1_6 b7
  have og_7 := own_below og_6 b7
  go_wp2_with fail
  refine (heldStringS_yes vg ls.length 1 _ (own_reads og_7) (by omega) (by omega) (by omega)).mono ?_
  rintro e w8 ⟨rfl, b8⟩
  have c0_8 := nxt c0_7 b8
  have c1_8 := nxt c1_7 b8
  have og_8 := own_below og_7 b8
  go_wp2
  go_ret
  exact ⟨rfl, c0_8⟩

set_option maxRecDepth 100000 in
theorem lifted_FnExactSplitByte (os : Os) (started : os.Started) (H : Type) (enc : TypeId × Value → H) :
    ReturnsInHanded {} Try.checked os 8 .any (Rows.fnExactSplitByteSpec.pre6 enc Try.prog Try.f8 Rows.fnExactSplitByteRow.domain false) (Rows.fnExactSplitByteSpec.post enc Try.prog Try.f8 false true false false) := by
  refine returnsInHanded_of_change (C := Try.checked) own started (by kernel_rfl) Try.func8
    (ChangeSpec.witness6 (enc := enc) (C := Try.checked) false ⟨#[], #[.string ⟨#[]⟩, .int .u8 0], []⟩ 8 (by kernel_rfl) (by kernel_rfl) (by kernel_rfl) (by kernel_rfl)) ?_
  intro W base args ds gs before hval0 hW hcnd _
  have hval : ∀ (j : Nat) t v, Try.f8.params[j]? = some t → args[j]? = some v → Value.okWide Try.prog W .any base t v := hval0
  have hW' := hW
  obtain ⟨p, q, hA0, hV, rfl, hfz, hnd⟩ := hW
  have hA : DataW.TrodAll enc Try.prog W 0 (fun _ => true) true Try.f8.params.toList args.toList ds p := hA0
  rw [Try.params8] at hA hval
  have hB := fun W' => back_all (enc := enc) (W' := W') laidOut _ _ _ _ (show AllR Try.prog [9, 5] from ⟨⟨by kernel_rfl, of_decide_eq_true (by kernel_rfl)⟩, ⟨⟨by kernel_rfl, of_decide_eq_true (by kernel_rfl)⟩, trivial⟩⟩) hA
  obtain ⟨v0, vs0, d0, ds0, p0, q0, hargs, rfl, rfl, h0, r0⟩ := trodAll_cons hA
  obtain ⟨v1, vs1, d1, ds1, p1, q1, rfl, rfl, rfl, h1, r1⟩ := trodAll_cons r0
  obtain ⟨rfl, rfl, rfl⟩ := trodAll_nil r1
  obtain rfl : args = #[v0, v1] := by cases args; simp_all
  obtain ⟨rfl, rfl⟩ := trodVars_none hV
  obtain ⟨s0, rfl, rfl, rfl, ws0⟩ := open_string Try.underlying9 (hval 0 9 v0 rfl rfl) h0
  obtain ⟨a0, rfl, bd0⟩ := str_of s0 ws0
  obtain ⟨y1, rfl, rfl, rfl, wf1⟩ := open_int Try.underlying5 (hval 1 5 v1 rfl rfl) h1
  obtain ⟨a1, rfl⟩ := byte_of wf1
  clear hA0 hval0
  refine (walk_FnExactSplitByte W a0 bd0 a1).mono fun e W' ⟨he, bel⟩ => ?_
  subst he
  exact ⟨_, rfl, _, _, _, [], _, [], hW', trodAll_mk1 (shut_bool Try.underlying4 _), hB W' bel, rfl, bel.frame _, fun h => by cases h⟩

theorem FnExactSplitByte_holds : Rows.FnExactSplitByteSaid :=
  OpenClaim.holds_of_wide 8 Try.f8 rfl rfl rfl rfl rfl rfl rfl ⟨rfl, rfl, rfl, rfl, rfl⟩ rfl rfl rfl rfl rfl (by kernel_rfl) Try.func8 (by kernel_rfl)
    (of_decide_eq_true (by kernel_rfl)) (by unfold Func.isWrapper; first | (rw [if_pos (by decide +kernel)]; kernel_rfl) | (rw [if_neg (by decide +kernel)]; exact ⟨rfl, rfl⟩))
    (fun os started H enc _ => lifted_FnExactSplitByte os started H enc)
end Go.Proofs.Ytdcaecklafppkaa
