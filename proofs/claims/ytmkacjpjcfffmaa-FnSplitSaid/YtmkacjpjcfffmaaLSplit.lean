/- The law FnSplit. No condition. -/
import Derived.Test.YtmkacjpjcfffmaaW61
import Derived.Test.YtmkacjpjcfffmaaOpen3
namespace Go.Proofs.Ytmkacjpjcfffmaa
open Go.ChangeShapes Go.WideShapes Go.ChangeAt Go.RowKit
open Go.ChangeMaps (open_string shut_string)
set_option linter.unusedVariables false

theorem walk_FnSplit (w : World) (v0 : Value) (ls0 : List UInt8) (rd0 : BytesAt w w.heap.size v0 ls0) (bl0 : ls0.length ≤ 9223372036854775807) : Calls Try.prog 6 #[v0] w fun e w' => RetB w true e w' := by
  have Rd0 := hide rd0
  obtain ⟨A0, k0, hv0, hk0, hrest⟩ := rd0
  have hl0 : (bytesV ls0).length = ls0.length := List.length_map _
  rw [hl0] at hv0
  subst hv0
  clear hrest hk0 hl0
  by_cases hgd : (1048576 : Int) < (ls0.length : Int)
  · have hd := hide (decide_eq_true hgd)
    clear hgd
    go_enter Try.func6, Try.ntmps6
    go_wp2_with fail
    refine (bigS _ ls0 w Rd0.out).mono ?_
    rw [hd.out]
    rintro e w' ⟨rfl, rfl⟩
    go_wp2
    go_ret
    exact ⟨rfl, Below.refl _ _⟩
  have hd := hide (decide_eq_false hgd)
  have hgd2 : ls0.length ≤ 1048576 := by omega
  clear hgd
  go_enter Try.func6, Try.ntmps6
  go_wp2_with fail
  refine (bigS _ ls0 w Rd0.out).mono ?_
  rw [hd.out]
  rintro e w' ⟨rfl, rfl⟩
  go_wp2_with fail
  refine (drawSplitByteS _ ls0 w Rd0.out (by omega)).mono ?_
  rintro e w1 ⟨s, b, hs6, rfl, b1⟩
  have B1 := hide b1
  clear b1
  obtain ⟨hj, hn⟩ := split_join b s.length s (Nat.le_refl _)
  have hlen := splitB_len b s
  have hpl : ∀ p ∈ splitB b s, p.length ≤ 6 := fun p hp => Nat.le_trans (splitB_part hp) hs6
  have hlens : Lib.lens (splitB b s) ≤ 6 * (splitB b s).length := lens_le hpl
  have Hj := hide hj
  have Hn := hide hn
  have Hpl := hide hpl
  clear hj hn hpl
  go_wp2_with fail
  refine (splitByteI s b w1 (by omega)).mono ?_
  rintro e w2 ⟨vp, rfl, o2, b2⟩
  have B2 := hide (nxt B1.out b2)
  have O2 := hide o2
  obtain ⟨A2, c2, rfl, _, he2⟩ := formS_ (own_reads o2)
  clear o2 b2 he2
  have Hbd : Hid (Lib.lens (splitB b s) + (splitB b s).length * ([b] : List UInt8).length ≤ 70368744177664) := by
    show _ + _ * 1 ≤ _
    omega
  have Hspec : Hid (∀ W : World, Calls Try.prog 24 #[.string ⟨s.toArray⟩, .int .u8 (b.toNat : Int)] W fun e w' => RetSs 9 W (splitB b s) e w') := fun W => splitByteS s b W (by omega)
  have Hone : Hid (∀ (p : List UInt8) (W : World), p ∈ splitB b s → Calls Try.prog 23 #[.string ⟨p.toArray⟩, .int .u8 (b.toNat : Int)] W fun e w' => RetSs 9 W [p] e w') := fun p W hp => by
    have h := splitByteI p b W (by have := Hpl.out p hp; omega)
    rw [splitB_none (Hn.out p hp)] at h
    exact h
  generalize splitB b s = ps at *
  have hcv := conv1 (P := Try.prog) (src := 31) (dst := 9) Try.underlying31 Try.underlying5 Try.underlying9 w2 (b.toNat : Int)
  obtain ⟨w3, hW3, b3⟩ : ∃ W, w2.alloc (.cells #[.int .u8 (b.toNat : Int)] 5) = W ∧ Below w2.heap.size w2 W := ⟨_, rfl, below_alloc _ _⟩
  have B3 := hide (nxt B2.out b3)
  have O3 := hide (own_below O2.out b3)
  clear b3
  rw [hW3, Int.toNat_natCast] at hcv
  have hbb : UInt8.ofNat b.toNat = b := by simp
  rw [hbb] at hcv
  have hne : (s == s) = true := by simp
  go_wp2_with fail
  clear hW3 hcv
  refine (joinI _ ps [b] w3 (own_reads O3.out) (by omega) Hbd.out).mono ?_
  rw [Hj.out]
  rintro e w4 ⟨rfl, b4⟩
  have B4 := hide (nxt B3.out b4)
  have O4 := hide (own_below O3.out b4)
  clear b4
  go_wp2_with fail
  refine (Hspec.out w4).mono ?_
  rintro e w5 ⟨vq, rfl, o5, b5⟩
  have B5 := hide (nxt B4.out b5)
  have O5 := hide (own_below O4.out b5)
  obtain ⟨A5, c5, rfl, _, he5⟩ := formS_ (own_reads o5)
  clear o5 b5 he5
  have C5 : Hid (Below w5.heap.size w5 w5) := Below.refl _ _
  go_wp2_with fail
  go_loopw [6] (fun i wr => ∃ k : Nat, k ≤ ps.length ∧ i = .int .i64 k ∧ Hid (Below w5.heap.size w5 wr)) (fun i _ => ps.length - (intOf i).toNat)
  case atStart => exact ⟨0, by omega, rfl, C5⟩
  case round =>
    obtain ⟨k, hk, rfl, hb⟩ := hrel
    by_cases hlt : k < ps.length
    · obtain ⟨A', c', hv', _, he⟩ := formS_ (own_reads (own_below O5.out hb.out))
      cases hv'
      obtain ⟨bb, o, p, hA, _, hp, hcell⟩ := he k hlt
      subst hA
      have hpm := List.mem_of_getElem? hp
      clear he hp
      go_wp2_with fail
      refine (Hone.out p wr hpm).mono ?_
      rintro e w7 ⟨v7, rfl, o7, b7⟩
      have B7 := hide (nxt hb.out b7)
      obtain ⟨A7, c7, rfl, _, he7⟩ := formS_ (own_reads o7)
      clear o7 b7 he7 hcell
      go_wp2
      go_roundw
      case rel => exact ⟨k + 1, by omega, by go_num, B7⟩
      case measure => simp [intOf]; omega
    · have hk2 : ps.length ≤ k := by omega
      have B6 := hide (nxt B5.out hb.out)
      go_wp2
      go_ret
      exact ⟨rfl, B6.out⟩

set_option maxRecDepth 100000 in
theorem lifted_FnSplit (os : Os) (started : os.Started) (H : Type) (enc : TypeId × Value → H) :
    ReturnsInHanded {} Try.checked os 6 .any (Rows.fnSplitSpec.pre6 enc Try.prog Try.f6 Rows.fnSplitRow.domain false) (Rows.fnSplitSpec.post enc Try.prog Try.f6 false true false false) := by
  refine returnsInHanded_of_change (C := Try.checked) own started (by kernel_rfl) Try.func6
    (ChangeSpec.witness6 (enc := enc) (C := Try.checked) false ⟨#[], #[.slice none 0 0], []⟩ 8 (by kernel_rfl) (by kernel_rfl) (by kernel_rfl) (by kernel_rfl)) ?_
  intro W base args ds gs before hval0 hW hcnd _
  have hval : ∀ (j : Nat) t v, Try.f6.params[j]? = some t → args[j]? = some v → Value.okWide Try.prog W .any base t v := hval0
  have hW' := hW
  obtain ⟨p, q, hA0, hV, rfl, hfz, hnd⟩ := hW
  have hA : DataW.TrodAll enc Try.prog W 0 (fun _ => true) true Try.f6.params.toList args.toList ds p := hA0
  rw [Try.params6] at hA hval
  have hB := fun W' => back_all (enc := enc) (W' := W') laidOut _ _ _ _ (show AllR Try.prog [31] from ⟨⟨by kernel_rfl, of_decide_eq_true (by kernel_rfl)⟩, trivial⟩) hA
  obtain ⟨v0, vs0, d0, ds0, p0, q0, hargs, rfl, rfl, h0, r0⟩ := trodAll_cons hA
  obtain ⟨rfl, rfl, rfl⟩ := trodAll_nil r0
  obtain rfl : args = #[v0] := by cases args; simp_all
  obtain ⟨rfl, rfl⟩ := trodVars_none hV
  obtain ⟨ls0, rd0, bl0⟩ := openBytes Try.underlying31 Try.underlying5 (by kernel_rfl) h0 (okWide_slice Try.underlying31 (hval 0 31 v0 rfl rfl))
  clear hA0 hval0
  refine (walk_FnSplit W v0 ls0 rd0 bl0).mono fun e W' ⟨he, bel⟩ => ?_
  subst he
  exact ⟨_, rfl, _, _, _, [], _, [], hW', trodAll_mk1 (shut_bool Try.underlying4 _), hB W' bel, rfl, bel.frame _, fun h => by cases h⟩

theorem FnSplit_holds : Rows.FnSplitSaid :=
  OpenClaim.holds_of_wide 6 Try.f6 rfl rfl rfl rfl rfl rfl rfl ⟨rfl, rfl, rfl, rfl, rfl⟩ rfl rfl rfl rfl rfl (by kernel_rfl) Try.func6 (by kernel_rfl)
    (of_decide_eq_true (by kernel_rfl)) (by unfold Func.isWrapper; first | (rw [if_pos (by decide +kernel)]; kernel_rfl) | (rw [if_neg (by decide +kernel)]; exact ⟨rfl, rfl⟩))
    (fun os started H enc _ => lifted_FnSplit os started H enc)
end Go.Proofs.Ytmkacjpjcfffmaa
