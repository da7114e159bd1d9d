/- The law FnNumbers, and its tied card. No condition. -/
import Derived.Deep.DeepCutAuto
import Derived.Test.YtmkacjpjcfffmaaDoorTab
import Derived.Test.YtmkacjpjcfffmaaDoorW80
import Derived.Test.YtmkacjpjcfffmaaDoorW81
import Derived.Test.YtmkacjpjcfffmaaDoorW35
import Derived.Test.YtmkacjpjcfffmaaDoorMathNums
import Derived.Test.YtmkacjpjcfffmaaDoorOpen3
import Derived.Test.YtmkacjpjcfffmaaDoorW63
namespace Go.Proofs.YtmkacjpjcfffmaaDoor
open Go.ChangeShapes Go.WideShapes Go.ChangeAt Go.RowKit
open Go.ChangeMaps (open_string shut_string)
set_option linter.unusedVariables false

set_option maxHeartbeats 4000000 in
theorem walk_FnNumbers (w : World) (hT : Tab w) (v0 : Value) (ls0 : List UInt8) (rd0 : BytesAt w w.heap.size v0 ls0) (bl0 : ls0.length ≤ 9223372036854775807) : Calls Tryd.prog 5 #[v0] w fun e w' => RetB w true e w' := by
  have Rd0 := hide rd0
  have HT := hide hT
  clear hT
  obtain ⟨A0, k0, hv0, hk0, hrest⟩ := rd0
  have hl0 : (bytesV ls0).length = ls0.length := List.length_map _
  rw [hl0] at hv0
  subst hv0
  clear hrest hk0 hl0
  by_cases hgd : (1048576 : Int) < (ls0.length : Int)
  · have hd := hide (decide_eq_true hgd)
    clear hgd
    go_enter Tryd.func5, Tryd.ntmps5
    go_wp2_with fail
    refine (bigS _ ls0 w Rd0.out).mono ?_
    rw [hd.out]
    rintro e w' ⟨rfl, rfl⟩
    go_wp2
    go_ret
    exact ⟨rfl, Below.refl _ _⟩
  have hd := hide (decide_eq_false hgd)
  have hgd2 : ls0.length ≤ 1048576 := by omega
  clear hgd
  go_enter Tryd.func5, Tryd.ntmps5
  go_wp2_with fail
  refine (bigS _ ls0 w Rd0.out).mono ?_
  rw [hd.out]
  rintro e w' ⟨rfl, rfl⟩
  go_wp2_with fail
  refine (drawFormatIntS _ ls0 w (nowB_ Rd0.out (Below.refl _ _)) (by omega)).mono ?_
  rintro e w1 ⟨n, hn, rfl, b1⟩
  have B1 := hide b1
  have Hn := hide hn
  have hlen := fmtZ_len n hn.1 hn.2
  have hpi := pi_fmtZ n
  obtain ⟨s, hs⟩ : ∃ s, s = fmtZ n := ⟨_, rfl⟩
  rw [← hs] at hlen hpi
  have Hs := hide hs
  have Hpv : Hid (piOk s = true → piVal s = n) := hpi.2
  have hpo := hpi.1
  obtain ⟨ok, hok⟩ : ∃ ok, ok = piOk s := ⟨_, rfl⟩
  have Hok := hide hok
  obtain ⟨x, hx⟩ : ∃ x, x = piVal s := ⟨_, rfl⟩
  have Hx := hide hx
  rw [← hok] at hpo
  have Hpo := hide hpo
  have HFI : Hid (∀ W, Tab W → Calls Tryd.prog 7 #[.int .i64 n] W fun e w' => RetS W s e w') := by
    intro W hW
    rw [Hs.out]
    exact formatIntI n W Hn.out hW
  have HFS : Hid (∀ W, Calls Tryd.prog 6 #[.int .i64 n] W fun e w' => RetS W s e w') := by
    intro W
    rw [Hs.out]
    exact formatIntS n W Hn.out
  have HPI : Hid (∀ W, Calls Tryd.prog 15 #[.string ⟨s.toArray⟩] W fun e w' => RetNB W x ok e w') := by
    intro W
    have h := parseIntI2 s W (by omega)
    rw [← Hx.out, ← Hok.out] at h
    exact h
  clear b1 hn hpi hs hpo hok hx
  go_wp2_with fail
  refine (HFI.out w1 (HT.out.on B1.out)).mono ?_
  rintro e w2 ⟨rfl, b2⟩
  have B2 := hide (nxt B1.out b2)
  clear b2
  go_wp2_with fail
  refine (HPI.out w2).mono ?_
  rintro e w3 ⟨rfl, b3⟩
  have B3 := hide (nxt B2.out b3)
  clear b3
  have hne : (s == s) = true := by simp
  have Hg : Hid (ok = (decide ((s.length : Int) ≤ 12) || (decide (n < 0) && decide ((s.length : Int) ≤ 13)))) := by
    show _ = _
    rw [Hpo.out]
    congr 1
    · exact decide_eq_decide.2 (by omega)
    · congr 1
      exact decide_eq_decide.2 (by omega)
  go_upto_region 6 with fail
  go_cut [50] (fun s50 wx => s50 = .bool false ∧ Hid (Below w3.heap.size w3 wx))
  case first =>
    by_cases h12 : (s.length : Int) ≤ 12
    · have hk : ok = true := by rw [Hg.out, decide_eq_true h12]; rfl
      have hxn : x = n := by rw [Hx.out]; exact Hpv.out (by rw [← Hok.out]; exact hk)
      subst hk hxn
      have hxx : (x != x) = false := by simp
      go_wp2_with fail
      refine (HFS.out w3).mono ?_
      rintro e w4 ⟨rfl, b4⟩
      have B4 := hide b4
      clear b4
      go_wp2_with fail
      go_meet
      refine ⟨?_, B4.out⟩
      first | rfl | (rw [decide_eq_false (show ¬ (s.length : Int) ≤ 12 by omega), decide_eq_false (show ¬ (s.length : Int) ≤ 13 by omega)]; rfl) | (rw [decide_eq_false (show ¬ (s.length : Int) ≤ 12 by omega)])
    · by_cases hn0 : n < 0
      · by_cases h13 : (s.length : Int) ≤ 13
        · have hk : ok = true := by rw [Hg.out, decide_eq_true hn0, decide_eq_true h13]; simp
          have hxn : x = n := by rw [Hx.out]; exact Hpv.out (by rw [← Hok.out]; exact hk)
          subst hk hxn
          have hxx : (x != x) = false := by simp
          go_wp2_with fail
          refine (HFS.out w3).mono ?_
          rintro e w4 ⟨rfl, b4⟩
          have B4 := hide b4
          clear b4
          go_wp2_with fail
          go_meet
          refine ⟨?_, B4.out⟩
          first | rfl | (rw [decide_eq_false (show ¬ (s.length : Int) ≤ 12 by omega), decide_eq_false (show ¬ (s.length : Int) ≤ 13 by omega)]; rfl) | (rw [decide_eq_false (show ¬ (s.length : Int) ≤ 12 by omega)])
        · have hk : ok = false := by rw [Hg.out, decide_eq_false h12, decide_eq_false h13]; simp
          subst hk
          go_wp2_with fail
          refine (HFS.out w3).mono ?_
          rintro e w4 ⟨rfl, b4⟩
          have B4 := hide b4
          clear b4
          go_wp2_with fail
          go_meet
          refine ⟨?_, B4.out⟩
          first | rfl | (rw [decide_eq_false (show ¬ (s.length : Int) ≤ 12 by omega), decide_eq_false (show ¬ (s.length : Int) ≤ 13 by omega)]; rfl) | (rw [decide_eq_false (show ¬ (s.length : Int) ≤ 12 by omega)])
      · have hk : ok = false := by rw [Hg.out, decide_eq_false h12, decide_eq_false hn0]; simp
        subst hk
        go_wp2_with fail
        refine (HFS.out w3).mono ?_
        rintro e w4 ⟨rfl, b4⟩
        have B4 := hide b4
        clear b4
        go_wp2_with fail
        go_meet
        refine ⟨?_, B4.out⟩
        first | rfl | (rw [decide_eq_false (show ¬ (s.length : Int) ≤ 12 by omega), decide_eq_false (show ¬ (s.length : Int) ≤ 13 by omega)]; rfl) | (rw [decide_eq_false (show ¬ (s.length : Int) ≤ 12 by omega)])
  case rest =>
    obtain ⟨rfl, hC⟩ := hcut
    generalize hwc : wc = w4 at hC ⊢
    clear hwc
    have B4 := hide (nxt B3.out hC.out)
    clear hC hne Hg
    go_wp2_with fail
    refine (drawParseNumberS _ ls0 w4 (nowB_ Rd0.out B4.out) (by omega)).mono ?_
    rintro e w5 ⟨t, ht, rfl, b5⟩
    have B5 := hide (nxt B4.out b5)
    obtain ⟨fine, hfine⟩ : ∃ b, b = pdOk 6 t := ⟨_, rfl⟩
    obtain ⟨y, hy⟩ : ∃ y, y = pdVal 6 t := ⟨_, rfl⟩
    have Hfine := hide hfine
    have Hy := hide hy
    have HNI : Hid (∀ W, Calls Tryd.prog 17 #[.string ⟨t.toArray⟩] W fun e w' => RetNB W y fine e w') := by
      intro W
      have h := parseNumberI2 t W (by omega)
      rw [← Hy.out, ← Hfine.out] at h
      exact h
    have HNS : Hid (∀ W, Calls Tryd.prog 18 #[.string ⟨t.toArray⟩] W fun e w' => RetNB W y fine e w') := by
      intro W
      have h := parseNumberS t W (by omega)
      rw [← Hy.out, ← Hfine.out] at h
      exact h
    clear b5 hfine hy
    go_wp2_with fail
    refine (HNI.out w5).mono ?_
    rintro e w6 ⟨rfl, b6⟩
    have B6 := hide (nxt B5.out b6)
    clear b6
    go_wp2_with fail
    refine (HNS.out w6).mono ?_
    rintro e w7 ⟨rfl, b7⟩
    have B7 := hide (nxt B6.out b7)
    clear b7
    cases fine
    · go_wp2
      go_ret
      exact ⟨rfl, B7.out⟩
    · have hpd : pdOk 6 t = true := Hfine.out.symm
      obtain ⟨h1, h2⟩ := pd_back hpd
      have h3 := pd_bound (by omega : 6 ≤ 12) hpd
      have h4 := pdVal_yes hpd
      rw [← Hy.out] at h1 h2 h4
      have hy64 : y ≤ 9223372036854775807 := by omega
      have HF : Hid (Calls Tryd.prog 7 #[.int .i64 y] w7 fun e w' => RetS w7 t e w') := by
        have h := formatIntI y w7 ⟨by omega, by omega⟩ (HT.out.on B7.out)
        rw [h1] at h
        exact h
      have hne2 : (t == t) = true := by simp
      clear h1 h3 h4 hpd
      go_wp2_with fail
      refine HF.out.mono ?_
      rintro e w8 ⟨rfl, b8⟩
      have B8 := hide (nxt B7.out b8)
      go_wp2
      go_ret
      exact ⟨rfl, B8.out⟩

set_option maxRecDepth 100000 in
theorem lifted_FnNumbers (os : Os) (started : os.Started) (H : Type) (enc : TypeId × Value → H) :
    ReturnsInHanded {} Tryd.checked os 5 .any (fun w args => (Rows.fnNumbersSpec.pre enc Tryd.prog Tryd.f5 [] false w args ∧ laidMetH Tryd.prog laidL w) ∧ sizedMet enc Tryd.prog Tryd.f5 (OpenSpec.ofChange Rows.fnNumbersSpec) false w args) (Rows.fnNumbersSpec.post enc Tryd.prog Tryd.f5 false true false false) := by
  refine returnsInHanded_of_change_and (C := Tryd.checked) (X := fun w _ => laidMetH Tryd.prog laidL w) (fun _ _ _ hh h => h.of_heap hh) own started (by kernel_rfl) Tryd.func5
    (ChangeSpec.witness_shaped (enc := enc) (C := Tryd.checked) (os := os) (X := fun w _ => laidMetH Tryd.prog laidL w) false (World.doorLaid Tryd.prog 24 os) #[.slice none 0 0] 8 rfl (World.shaped_of_RefB (by kernel_rfl) (by kernel_rfl)) (by kernel_rfl) (by kernel_rfl) (by kernel_rfl) (door_met os _)) ?_
  intro W base args ds gs before hval0 hW _ _ hL _
  have hval : ∀ (j : Nat) t v, Tryd.f5.params[j]? = some t → args[j]? = some v → Value.okWide Tryd.prog W .any base t v := hval0
  have hW' := hW
  obtain ⟨p, q, hA0, hV, rfl, hfz, hnd⟩ := hW
  have hA : DataW.TrodAll enc Tryd.prog W 0 (fun _ => true) true Tryd.f5.params.toList args.toList ds p := hA0
  rw [Tryd.params5] at hA hval
  have hB := fun W' => back_all (enc := enc) (W' := W') laidOut _ _ _ _ (show AllR Tryd.prog [33] from ⟨⟨by kernel_rfl, of_decide_eq_true (by kernel_rfl)⟩, trivial⟩) hA
  obtain ⟨v0, vs0, d0, ds0, p0, q0, hargs, rfl, rfl, h0, r0⟩ := trodAll_cons hA
  obtain ⟨rfl, rfl, rfl⟩ := trodAll_nil r0
  obtain rfl : args = #[v0] := by cases args; simp_all
  obtain ⟨rfl, rfl⟩ := trodVars_none hV
  obtain ⟨ls0, rd0, bl0⟩ := openBytes Tryd.underlying33 Tryd.underlying5 (by kernel_rfl) h0 (okWide_slice Tryd.underlying33 (hval 0 33 v0 rfl rfl))
  clear hA0 hval0
  refine (walk_FnNumbers W (tab_of hL) v0 ls0 rd0 bl0).mono fun e W' ⟨he, bel⟩ => ?_
  subst he
  exact ⟨_, rfl, _, _, _, [], _, [], hW', trodAll_mk1 (shut_bool Tryd.underlying4 _), hB W' bel, rfl, bel.frame _, fun h => by cases h⟩

theorem FnNumbers_row : Rows.FnNumbersSaid :=
  OpenClaim.holds_of_wide 5 Tryd.f5 rfl rfl rfl rfl rfl rfl rfl ⟨rfl, rfl, rfl, rfl, rfl⟩ rfl rfl rfl rfl rfl (by kernel_rfl) Tryd.func5 (by kernel_rfl)
    (of_decide_eq_true (by kernel_rfl)) (by unfold Func.isWrapper; first | (rw [if_pos (by decide +kernel)]; kernel_rfl) | (rw [if_neg (by decide +kernel)]; exact ⟨rfl, rfl⟩))
    (fun os started H enc _ => lifted_FnNumbers os started H enc)

theorem FnNumbers_holds : Rows.FnNumbersCardSaid :=
  Claim7.holds_tied_plain_at .later [] [.data, .data, .data] true Rows.fnNumbersCard.stood.harness false
    FnNumbers_row (fun _ h => by cases h) (by kernel_rfl) (fun _ h => by cases h) fnNumbers_row_tie rfl ⟨rfl, rfl⟩ (by kernel_rfl) rfl
    (fun f fn hf hfn => by
      obtain rfl : f = 5 := Option.some.inj ((show Tryd.prog.funcNamed "loop.example/g03100/laws.FnNumbers" = some 5 by kernel_rfl).symm.trans hf) |>.symm
      obtain rfl : fn = Tryd.f5 := (Option.some.inj (Tryd.func5.symm.trans hfn)).symm
      exact ⟨by kernel_rfl, fun j t ht => by
        rw [Tryd.params5] at ht
        have hm : t ∈ [33] := by simpa using Array.mem_of_getElem? ht
        have hall : ([33].all fun u => !Tryd.prog.wantsStandIn u) = true := by kernel_rfl
        exact (show Tryd.prog.wantsStandIn t = false by simpa using List.all_eq_true.1 hall t hm)⟩)
    (by kernel_rfl)
end Go.Proofs.YtmkacjpjcfffmaaDoor
