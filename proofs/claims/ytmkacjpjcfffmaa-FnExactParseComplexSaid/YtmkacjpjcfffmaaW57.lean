/- Walks: ParseComplex in the program. -/
import Derived.Test.YtmkacjpjcfffmaaW56
namespace Go.Proofs.Ytmkacjpjcfffmaa
open Go.RowKit

theorem parseComplexI (l : List UInt8) (w : World) (hl : l.length ≤ 1073741000) :
    Calls Try.prog 30 #[.string ⟨l.toArray⟩] w fun e w' => RetCB 3 w (pcxN l) (pcxXs l) (pcxOk l) e w' := by
  obtain ⟨w1, hW1, at1, rs1, b1, z1⟩ := boxRes w 42
  have Rs1 := hide rs1
  have B1 := hide b1
  have At1 := hide at1
  have hp := parseHeadI l w1 (by omega)
  unfold PHead at hp
  have Hp := hide hp
  clear at1 rs1 b1 z1 hp
  cases hh : headB l
  · have Hh := hide hh
    have Hno : Hid (pcxOk l = false) := by show _ = _; unfold pcxOk; rw [hh]; rfl
    have Hn : Hid (headNum l = 0 ∧ headRest l = []) := by show _ ∧ _; unfold headNum headRest; rw [hh]; exact ⟨rfl, rfl⟩
    clear hh
    go_enter Try.func30, Try.ntmps30
    go_wp2_with fail
    clear hW1
    refine Calls.mono Hp.out ?_
    rw [Hh.out, Hn.out.1, Hn.out.2]
    rintro e w2 ⟨rfl, b2⟩
    obtain ⟨e2_0, e2_1⟩ := At1.out.to b2
    obtain ⟨_, f0, f1⟩ := Rs1.out.to b2
    have hr := (Rs1.out.to b2).lt
    have B2 := hide (nxt B1.out b2)
    clear b2
    go_wp2
    refine bodyPost_ret (v := .tuple #[.agg #[.int .i64 0, .slice none 0 0], .bool false]) (by simp [results, Try.results30, go_sem, e2_0, e2_1]) rfl ?_
    exact retCB_pno Hno.out (below_store B2.out (Nat.le_refl _) _ _)
  · have Hh := hide hh
    obtain ⟨r, hr⟩ : ∃ r, l.drop 2 = r := ⟨_, rfl⟩
    obtain ⟨n, hn⟩ : ∃ n, headN l = n := ⟨_, rfl⟩
    have Hn : Hid (headNum l = n ∧ headRest l = r) := by show _ ∧ _; unfold headNum headRest; rw [hh]; exact ⟨hn, hr⟩
    have Hok : Hid (pcxOk l = (setsOk r && isCx n (setsXs r))) := by show _ = _; unfold pcxOk; rw [hh, hr, hn]; rfl
    have Hr := hide hr
    have HN := hide hn
    have hrl : r.length ≤ 1073741000 := by rw [← hr, List.length_drop]; omega
    clear hh hr hn
    by_cases hr0 : r = []
    · subst hr0
      have Hok2 : Hid (pcxOk l = isCx n []) := by show _ = _; rw [Hok.out]; rfl
      go_enter Try.func30, Try.ntmps30
      go_wp2_with fail
      clear hW1
      refine Calls.mono Hp.out ?_
      rw [Hh.out, Hn.out.1, Hn.out.2]
      rintro e w2 ⟨rfl, b2⟩
      have At2 := hide (At1.out.to b2)
      have Rs2 := hide (Rs1.out.to b2)
      have B2 := hide (nxt B1.out b2)
      clear b2
      go_wp2_with fail
      obtain ⟨w3, hW3, at3, b3, z3⟩ := boxC w2 (.int .i64 n) (.slice none 0 0) 42
      rw [hW3]
      have At3 := hide at3
      have B3 := hide b3
      clear b3 z3 hW3
      obtain ⟨e3_0, e3_1⟩ := at3
      refine (isComplexI n _ [] w3 (ReadsV.nil_ _ _) (by simp)).mono ?_
      have HAt1 := hide (At2.out.to B3.out)
      have HRs1 := hide (Rs2.out.to B3.out)
      have HB := hide (nxt B2.out B3.out)
      cases hcx : isCx n []
      · have Hno : Hid (pcxOk l = false) := by show _ = _; rw [Hok2.out, hcx]
        clear hcx e3_0 e3_1
        rintro e w7 ⟨rfl, b7⟩
        obtain ⟨e7_0, e7_1⟩ := HAt1.out.to b7
        obtain ⟨_, f0, f1⟩ := HRs1.out.to b7
        have hr := (HRs1.out.to b7).lt
        have B7 := hide (nxt HB.out b7)
        clear b7
        go_wp2
        refine bodyPost_ret (v := .tuple #[.agg #[.int .i64 0, .slice none 0 0], .bool false]) (by simp [results, Try.results30, go_sem, e7_0, e7_1]) rfl ?_
        exact retCB_pno Hno.out (below_store B7.out (Nat.le_refl _) _ _)
      · have Hyes : Hid (pcxOk l = true) := by show _ = _; rw [Hok2.out, hcx]
        clear hcx e3_0 e3_1
        rintro e w7 ⟨rfl, b7⟩
        obtain ⟨e7_0, e7_1⟩ := At3.out.to b7
        obtain ⟨⟨q0, q1, h70, h71⟩, f0, f1⟩ := HRs1.out.to b7
        have hr := (HRs1.out.to b7).lt
        have hr2 := (At3.out.to b7).lt
        have Hle : Hid (w.heap.size < w2.heap.size) := Rs2.out.lt
        have Hne : Hid (w.heap.size ≠ w2.heap.size) := by have := Hle.out; show _ ≠ _; omega
        have hne2 := Hne.out
        have B7 := hide (nxt HB.out b7)
        clear b7
        go_wp2
        refine bodyPost_ret (v := .tuple #[.agg #[.int .i64 n, .slice none 0 0], .bool true]) (by simp [results, Try.results30, go_sem, h70, h71]) rfl ?_
        exact retCB_pyes Hyes.out HN.out (by rw [Hr.out]) (own_nil _ _) (below_store B7.out (Nat.le_refl _) _ _)
    · have hne : (r == []) = false := by simpa using hr0
      have Hr0 := hide hr0
      clear hr0
      go_enter Try.func30, Try.ntmps30
      go_wp2_with fail
      clear hW1
      refine Calls.mono Hp.out ?_
      rw [Hh.out, Hn.out.1, Hn.out.2]
      rintro e w2 ⟨rfl, b2⟩
      have At2 := hide (At1.out.to b2)
      have Rs2 := hide (Rs1.out.to b2)
      have B2 := hide (nxt B1.out b2)
      clear b2
      go_wp2_with fail
      obtain ⟨w3, hW3, at3, b3, z3⟩ := boxC w2 (.int .i64 n) (.slice none 0 0) 42
      have rs3 : Res w2.heap.size w3 := by rw [← hW3]; exact ⟨⟨_, _, World.cell?_alloc_at _ _ _ _ rfl, World.cell?_alloc_at _ _ _ _ rfl⟩, by simp [go_sem], by simp [go_sem]⟩
      rw [hW3]
      have Rs3 := hide rs3
      have At3 := hide at3
      have B3 := hide b3
      have Z3 := hide z3
      clear at3 rs3 b3 z3 hW3
      refine (splitByteI r 44 w3 (by omega)).mono ?_
      rintro e w5 ⟨pv, rfl, o5, b5⟩
      have hpl := splitB_len 44 r
      have hpart : ∀ p ∈ splitB 44 r, p.length ≤ 1073741824 := fun p hp => Nat.le_trans (splitB_part hp) (by omega)
      have Hpart := hide hpart
      have hg1 : w2.heap.size + 1 ≤ w3.heap.size := by have := Z3.out; omega
      have hU0 : Under7 w2 w5 w2.heap.size n [] pv (splitB 44 r) (.slice none 0 0) := ⟨At3.out.to b5, Rs3.out.to b5, own_nil _ _, own_mono o5 hg1, fun j hj => (nomatch (show (none : Option Nat) = some j from hj)), nxt B3.out b5⟩
      have HU0 : Hid (∃ v, Under7 w2 w5 w2.heap.size n (setsTo (splitB 44 r) 0) pv (splitB 44 r) v) := ⟨_, hU0⟩
      have hro : 0 < r.length := by
        cases r with
        | nil => exact absurd rfl Hr0.out
        | cons _ _ => simp
      obtain ⟨Ap, cp, rfl, _, _⟩ := formS_ (own_reads o5)
      clear hpart hU0 o5 b5
      generalize hps : splitB 44 r = ps at HU0 Hpart hpl
      have Hps := hide hps
      clear hps
      go_wp2_with fail
      go_loopw [9, 10, 11, 28] (fun _ _ _ i wr => ∃ k : Nat, k ≤ ps.length ∧ i = .int .i64 k ∧ Hid (∃ v, Under7 w2 wr w2.heap.size n (setsTo ps k) (.slice Ap ps.length cp) ps v) ∧ Hid (∀ (j : Nat) p, j < k → ps[j]? = some p → (parseSet p).2 = true)) (fun _ _ _ i _ => ps.length - (intOf i).toNat)
      case atStart => exact ⟨0, by omega, rfl, HU0, fun j p hj => absurd hj (Nat.not_lt_zero _)⟩
      case round =>
        obtain ⟨k, hk, rfl, hu, hgood⟩ := hrel
        obtain ⟨v, hU⟩ := hu.out
        have HU := hide hU
        clear hu
        by_cases hlt : k < ps.length
        · obtain ⟨A', c', hv', _, he⟩ := formS_ (own_reads hU.parts)
          cases hv'
          obtain ⟨b, o, p, hA, _, hp, hcell⟩ := he k hlt
          subst hA
          have hpl2 := Hpart.out p (List.mem_of_getElem? hp)
          have Hp2 := hide hp
          clear he hp hU
          cases hps2 : (parseSet p).2
          · have Hno : Hid (pcxOk l = false) := by
              show _ = _
              rw [Hok.out, setsOk_bad (p := p) (k := k) Hr0.out (by rw [Hps.out]; exact Hp2.out) hps2]
              rfl
            have Hps2 := hide hps2
            clear hps2
            go_wp2_with fail
            refine (parseSetI2 p wr (by omega)).mono ?_
            rw [Hps2.out]
            rintro e w6 ⟨rfl, b6⟩
            obtain ⟨e6_0, e6_1⟩ := (At2.out.to HU.out.below).to b6
            obtain ⟨_, f0, f1⟩ := (Rs2.out.to HU.out.below).to b6
            have hr := ((Rs2.out.to HU.out.below).to b6).lt
            have B6 := hide (nxt (nxt B2.out HU.out.below) b6)
            clear b6 hcell
            go_wp2
            refine bodyPost_ret (v := .tuple #[.agg #[.int .i64 0, .slice none 0 0], .bool false]) (by simp [results, Try.results30, go_sem, e6_0, e6_1]) rfl ?_
            exact retCB_pno Hno.out (below_store B6.out (Nat.le_refl _) _ _)
          · have Hps2 := hide hps2
            have Hsn := hide (setsTo_snoc Hp2.out)
            have Hgood : Hid (∀ (j : Nat) q, j < k + 1 → ps[j]? = some q → (parseSet q).2 = true) := by
              intro j q hj hq
              rcases Nat.lt_or_ge j k with h | h
              · exact hgood.out j q h hq
              · obtain rfl : j = k := by omega
                rw [Hp2.out] at hq
                cases hq
                exact Hps2.out
            have hsl := setsTo_len ps k
            clear hps2 hgood
            go_wp2_with fail
            refine (parseSetI2 p wr (by omega)).mono ?_
            rw [Hps2.out]
            rintro e w6 ⟨rfl, b6⟩
            have HU6 : Hid (Under7 w2 w6 w2.heap.size n (setsTo ps k) (.slice (some ⟨b, o, none⟩) ps.length cp) ps v) := HU.out.to b6
            have ho := HU6.out.own
            obtain ⟨e6_0, e6_1⟩ := HU6.out.box
            have hlen : (setsTo ps k).length < 17179869184 := by omega
            have hsz := HU6.out.res.lt
            have hsz' : w2.heap.size + 1 ≤ w6.heap.size := by omega
            clear b6 hcell
            go_wp2_with (at_builtin; refine wpList_appAt ho (((parseSet p).1 : Nat) : Int) Try.underlying36 infoI rfl _ _ rfl rfl rfl hlen hsz' ?_; intro v' w7 ho7 hb7 hg7 hat7; obtain ⟨hbx7, hrs7, hU7⟩ := HU6.out.step ho7 hg7 hat7; obtain ⟨_, hf70, hf71⟩ := hrs7; obtain ⟨hc70, hc71⟩ := hbx7; obtain ⟨A7, n7, c7, rfl⟩ := own_shape56 ho7)
            have HU7 : Hid (∃ v, Under7 w2 (w7.setCell ⟨w2.heap.size, 1, none⟩ (.slice A7 n7 c7)) w2.heap.size n (setsTo ps (k + 1)) (.slice (some ⟨b, o, none⟩) ps.length cp) ps v) := ⟨_, by rw [Hsn.out]; exact hU7⟩
            clear hU7
            go_wp2
            go_roundw
            case rel => exact ⟨k + 1, by omega, by go_num, HU7, Hgood⟩
            case measure => simp [intOf]; omega
        · have hk2 : ps.length ≤ k := by omega
          have hxs : setsTo ps k = setsXs r := by rw [setsTo_all hk2, setsXs_ne Hr0.out, Hps.out]
          have hso : setsOk r = true := setsOk_good (by rw [Hps.out]; exact fun j q hq => hgood.out j q (by have := (List.getElem?_eq_some_iff.1 hq).1; omega) hq)
          have Hok2 : Hid (pcxOk l = isCx n (setsXs r)) := by show _ = _; rw [Hok.out, hso]; rfl
          have hlx : (setsXs r).length ≤ 1073741824 := by rw [← hxs]; have := setsTo_len ps k; omega
          rw [hxs] at hU
          have HV := hide hU
          obtain ⟨Av, nv, cv, rfl⟩ := own_shape56 hU.own
          obtain ⟨e6_0, e6_1⟩ := HV.out.box
          clear hU HU hgood hxs hso
          go_wp2_with fail
          refine (isComplexI n _ (setsXs r) wr (own_reads HV.out.own) hlx).mono ?_
          have HAt1 := hide (At2.out.to HV.out.below)
          have HRs1 := hide (Rs2.out.to HV.out.below)
          have HB := hide (nxt B2.out HV.out.below)
          cases hcx : isCx n (setsXs r)
          · have Hno : Hid (pcxOk l = false) := by show _ = _; rw [Hok2.out, hcx]
            clear hcx e6_0 e6_1
            rintro e w7 ⟨rfl, b7⟩
            obtain ⟨e7_0, e7_1⟩ := HAt1.out.to b7
            obtain ⟨_, f0, f1⟩ := HRs1.out.to b7
            have hr := (HRs1.out.to b7).lt
            have B7 := hide (nxt HB.out b7)
            clear b7
            go_wp2
            refine bodyPost_ret (v := .tuple #[.agg #[.int .i64 0, .slice none 0 0], .bool false]) (by simp [results, Try.results30, go_sem, e7_0, e7_1]) rfl ?_
            exact retCB_pno Hno.out (below_store B7.out (Nat.le_refl _) _ _)
          · have Hyes : Hid (pcxOk l = true) := by show _ = _; rw [Hok2.out, hcx]
            clear hcx e6_0 e6_1
            rintro e w7 ⟨rfl, b7⟩
            obtain ⟨e7_0, e7_1⟩ := HV.out.box.to b7
            obtain ⟨⟨q0, q1, h70, h71⟩, f0, f1⟩ := HRs1.out.to b7
            have hr := (HRs1.out.to b7).lt
            have hr2 := (HV.out.res.to b7).lt
            have Hle : Hid (w.heap.size < w2.heap.size) := Rs2.out.lt
            have Hne : Hid (w.heap.size ≠ w2.heap.size) := by have := Hle.out; show _ ≠ _; omega
            have hne2 := Hne.out
            have HO := hide (own_below HV.out.own b7)
            have B7 := hide (nxt HB.out b7)
            clear b7
            go_wp2
            refine bodyPost_ret (v := .tuple #[.agg #[.int .i64 n, .slice Av nv cv], .bool true]) (by simp [results, Try.results30, go_sem, h70, h71]) rfl ?_
            refine retCB_pyes Hyes.out HN.out (by rw [Hr.out]) (own_setNe (own_setNe (own_mono HO.out (by have := Hle.out; omega)) (fun j hj => by have := (own_block HO.out j hj).1; have := Hle.out; omega) _ _) (fun j hj => by have := (own_block HO.out j hj).1; have := Hle.out; omega) _ _) (below_store B7.out (Nat.le_refl _) _ _)
end Go.Proofs.Ytmkacjpjcfffmaa
