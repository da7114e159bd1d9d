/- Walks: ParseComplex in the reference. -/
import Derived.Test.YtmkacjpjcfffmaaW57
import Derived.Test.YtmkacjpjcfffmaaW35
namespace Go.Proofs.Ytmkacjpjcfffmaa
open Go.RowKit

theorem pcs_vals {l : List UInt8} {p r : List UInt8} (hs : pcs l = [p, r]) : pcsOk l = (piOk p && setsOk r && isCx (piVal p) (setsXs r)) := by
  unfold pcsOk
  rw [hs]
  rfl
theorem pcx_of {l p r : List UInt8} (hs : pcs l = [p, r]) : pcxOk l = (piOk p && setsOk r && isCx (piVal p) (setsXs r)) := by
  rw [← (pcs_eq l).1, pcs_vals hs]
theorem retCB_syes {w w' : World} {l p r : List UInt8} (hs : pcs l = [p, r]) (h : pcxOk l = true) {v : Value} (ho : OwnV 3 w' w.heap.size v (ints (setsXs r))) (hb : Below w.heap.size w w') : RetCB 3 w (pcxN l) (pcxXs l) (pcxOk l) (.returned (.tuple #[.agg #[.int .i64 (piVal p), v], .bool true])) w' := by
  obtain ⟨h1, h2⟩ := (pcs_eq l).2 h
  rw [hs] at h1 h2
  have h1' : piVal p = headN l := h1
  have h2' : setsXs r = setsXs (l.drop 2) := h2
  exact retCB_pyes h h1'.symm h2'.symm ho hb

set_option maxHeartbeats 1600000 in
theorem parseComplexS (l : List UInt8) (w : World) (hl : l.length ≤ 1073741000) :
    Calls Try.prog 29 #[.string ⟨l.toArray⟩] w fun e w' => RetCB 3 w (pcxN l) (pcxXs l) (pcxOk l) e w' := by
  obtain ⟨w1, hW1, at1, rs1, b1, z1⟩ := boxRes w 42
  have Rs1 := hide rs1
  have B1 := hide b1
  have At1 := hide at1
  have hp := splitByteS l 58 w1 (by omega)
  have Hp := hide hp
  clear at1 rs1 b1 z1 hp
  by_cases h2 : (pcs l).length = 2
  · obtain ⟨p, r, hlpr, _, _, hs⟩ := pcs_two h2
    have hs' : splitB 58 l = [p, r] := hs
    have hplen : p.length ≤ 1073741000 := by rw [hlpr] at hl; simp at hl; omega
    have hrl : r.length ≤ 1073741000 := by rw [hlpr] at hl; simp at hl; omega
    have Hs := hide hs
    have Hs' := hide hs'
    have Hok := hide (pcx_of hs)
    clear h2 hs hs' hlpr
    go_enter Try.func29, Try.ntmps29
    go_wp2_with fail
    clear hW1
    refine Calls.mono Hp.out ?_
    rw [Hs'.out]
    rintro e w2 ⟨pv, rfl, o2, b2⟩
    have At2 := hide (At1.out.to b2)
    have Rs2 := hide (Rs1.out.to b2)
    have B2 := hide (nxt B1.out b2)
    have O2 := hide o2
    obtain ⟨A2, c2, rfl, _, he2⟩ := formS_ (own_reads o2)
    obtain ⟨b, o, p', hA, _, hp', hcell0⟩ := he2 0 (by simp)
    obtain ⟨b', o', r', hA', _, hr', hcell1⟩ := he2 1 (by simp)
    subst hA
    cases hA'
    cases hp'
    cases hr'
    rw [Nat.add_zero] at hcell0
    have hbl := World.block_lt_of_cell? _ _ hcell0
    clear b2 o2 he2
    by_cases hr0 : r = []
    · have hone0 : (splitB 44 r).length = 1 := by rw [hr0]; rfl
      have Hr0 := hide hr0
      clear hr0
      go_wp2_with fail
      refine (parseIntS p w2 (by omega)).mono ?_
      rintro e w3 ⟨rfl, b3⟩
      have At3 := hide (At2.out.to b3)
      have Rs3 := hide (Rs2.out.to b3)
      have B3 := hide (nxt B2.out b3)
      have hcc1 := (b3.cell (p := ⟨b, o + 1, none⟩) hbl).trans hcell1
      have hbl3 := World.block_lt_of_cell? _ _ hcc1
      clear b3 hcell0 hcell1
      go_wp2_with fail
      obtain ⟨w4, hW4, at4, b4, z4⟩ := boxC w3 (.int .i64 (piVal p)) (.slice none 0 0) 42
      have rs4 : Res w3.heap.size w4 := by rw [← hW4]; exact ⟨⟨_, _, World.cell?_alloc_at _ _ _ _ rfl, World.cell?_alloc_at _ _ _ _ rfl⟩, by simp [go_sem], by simp [go_sem]⟩
      rw [hW4]
      refine (splitByteS r 44 w4 (by omega)).mono ?_
      rintro e w5 ⟨pv2, rfl, o5, b5⟩
      have hg1 : w3.heap.size + 1 ≤ w4.heap.size := by omega
      have hU0 : Under7 w3 w5 w3.heap.size (piVal p) [] pv2 (splitB 44 r) (.slice none 0 0) := ⟨at4.to b5, rs4.to b5, own_nil _ _, own_mono o5 hg1, fun j hj => (nomatch (show (none : Option Nat) = some j from hj)), nxt b4 b5⟩
      have HU0 : Hid (∃ v, Under7 w3 w5 w3.heap.size (piVal p) (setsTo (splitB 44 r) 0) pv2 (splitB 44 r) v) := ⟨_, hU0⟩
      obtain ⟨Ap, cp, rfl, _, _⟩ := formS_ (own_reads o5)
      have Hcc1 := hide hcc1
      clear at4 rs4 b4 z4 hW4 hU0 o5 b5 hg1 hcc1
      have hpl := splitB_len 44 r
      have Hpart : Hid (∀ q ∈ splitB 44 r, q.length ≤ 1073741824) := fun q hq => Nat.le_trans (splitB_part hq) (by omega)
      generalize hps : splitB 44 r = ps at *
      have Hps := hide hps
      clear hps
      go_wp2_with fail
      go_loopw [9, 10, 11] (fun i _ _ wr => ∃ k : Nat, k ≤ ps.length ∧ i = .int .i64 k ∧ Hid (∃ v, Under7 w3 wr w3.heap.size (piVal p) (setsTo ps k) (.slice Ap ps.length cp) ps v) ∧ Hid (∀ (j : Nat) q, j < k → ps[j]? = some q → (parseSet q).2 = true) ∧ Hid (r = [] → k = 0)) (fun i _ _ _ => ps.length - (intOf i).toNat)
      case atStart => exact ⟨0, by omega, rfl, HU0, fun j q hj => absurd hj (Nat.not_lt_zero _), fun _ => rfl⟩
      case round =>
        obtain ⟨k, hk, rfl, hu, hgood, hzero⟩ := hrel
        obtain ⟨v, hU⟩ := hu.out
        have HU := hide hU
        have hcr1 := (HU.out.below.cell (p := ⟨b, o + 1, none⟩) hbl3).trans Hcc1.out
        clear hu
        obtain rfl : k = 0 := hzero.out Hr0.out
        have hxs : setsTo ps 0 = setsXs r := by rw [Hr0.out]; rfl
        have hso : setsOk r = true := by rw [Hr0.out]; rfl
        have hee : (r == []) = true := by rw [Hr0.out]; rfl
        have hee2 : (r != []) = false := by rw [Hr0.out]; rfl
        have Hok2 : Hid (pcxOk l = (piOk p && isCx (piVal p) (setsXs r))) := by show _ = _; rw [Hok.out, hso, Bool.and_true]
        have hlx : (setsXs r).length ≤ 1073741824 := by rw [← hxs]; have := setsTo_len ps 0; omega
        rw [hxs] at hU
        have HV := hide hU
        obtain ⟨Av, nv, cv, rfl⟩ := own_shape56 hU.own
        have HAt1 := hide (At3.out.to HV.out.below)
        have HRs1 := hide (Rs3.out.to HV.out.below)
        have HB := hide (nxt B3.out HV.out.below)
        clear hU HU hgood hxs hso hzero
        cases hpi : piOk p
        · have Hno : Hid (pcxOk l = false) := by show _ = _; rw [Hok2.out, hpi]; rfl
          obtain ⟨x6_0, x6_1⟩ := HAt1.out
          obtain ⟨_, f0, f1⟩ := HRs1.out
          have hr := HRs1.out.lt
          go_wp2
          refine bodyPost_ret (v := .tuple #[.agg #[.int .i64 0, .slice none 0 0], .bool false]) (by simp [results, Try.results29, go_sem, x6_0, x6_1]) rfl ?_
          exact retCB_pno Hno.out (below_store HB.out (Nat.le_refl _) _ _)
        · have Hpi := hide hpi
          obtain ⟨e6_0, e6_1⟩ := HV.out.box
          go_wp2_with fail
          refine (isComplexS (piVal p) _ (setsXs r) wr (own_reads HV.out.own) hlx).mono ?_
          cases hcx : isCx (piVal p) (setsXs r)
          · have Hno : Hid (pcxOk l = false) := by show _ = _; rw [Hok2.out, hcx, Bool.and_false]
            clear hcx e6_0 e6_1
            rintro e w7 ⟨rfl, b7⟩
            obtain ⟨e7_0, e7_1⟩ := HAt1.out.to b7
            obtain ⟨_, f0, f1⟩ := HRs1.out.to b7
            have hr := (HRs1.out.to b7).lt
            have B7 := hide (nxt HB.out b7)
            clear b7
            go_wp2
            refine bodyPost_ret (v := .tuple #[.agg #[.int .i64 0, .slice none 0 0], .bool false]) (by simp [results, Try.results29, go_sem, e7_0, e7_1]) rfl ?_
            exact retCB_pno Hno.out (below_store B7.out (Nat.le_refl _) _ _)
          · have Hyes : Hid (pcxOk l = true) := by show _ = _; rw [Hok2.out, hcx, Hpi.out]; rfl
            clear hcx e6_0 e6_1
            rintro e w7 ⟨rfl, b7⟩
            obtain ⟨e7_0, e7_1⟩ := HV.out.box.to b7
            obtain ⟨⟨q0, q1, h70, h71⟩, f0, f1⟩ := HRs1.out.to b7
            have hr := (HRs1.out.to b7).lt
            have hr2 := (HV.out.res.to b7).lt
            have Hle : Hid (w.heap.size < w3.heap.size) := Rs3.out.lt
            have Hne : Hid (w.heap.size ≠ w3.heap.size) := by have := Hle.out; show _ ≠ _; omega
            have hne2 := Hne.out
            have HO := hide (own_below HV.out.own b7)
            have B7 := hide (nxt HB.out b7)
            clear b7
            go_wp2
            refine bodyPost_ret (v := .tuple #[.agg #[.int .i64 (piVal p), .slice Av nv cv], .bool true]) (by simp [results, Try.results29, go_sem, h70, h71]) rfl ?_
            refine retCB_syes Hs.out Hyes.out (own_setNe (own_setNe (own_mono HO.out (by have := Hle.out; omega)) (fun j hj => by have := (own_block HO.out j hj).1; have := Hle.out; omega) _ _) (fun j hj => by have := (own_block HO.out j hj).1; have := Hle.out; omega) _ _) (below_store B7.out (Nat.le_refl _) _ _)
    · have hee : (r == []) = false := by simpa using hr0
      have hee2 : (r != []) = true := by rw [bne, hee]; rfl
      have Hr0 := hide hr0
      clear hr0
      go_wp2_with fail
      refine (parseIntS p w2 (by omega)).mono ?_
      rintro e w3 ⟨rfl, b3⟩
      have At3 := hide (At2.out.to b3)
      have Rs3 := hide (Rs2.out.to b3)
      have B3 := hide (nxt B2.out b3)
      have hcc1 := (b3.cell (p := ⟨b, o + 1, none⟩) hbl).trans hcell1
      have hbl3 := World.block_lt_of_cell? _ _ hcc1
      clear b3 hcell0 hcell1
      go_wp2_with fail
      obtain ⟨w4, hW4, at4, b4, z4⟩ := boxC w3 (.int .i64 (piVal p)) (.slice none 0 0) 42
      have rs4 : Res w3.heap.size w4 := by rw [← hW4]; exact ⟨⟨_, _, World.cell?_alloc_at _ _ _ _ rfl, World.cell?_alloc_at _ _ _ _ rfl⟩, by simp [go_sem], by simp [go_sem]⟩
      rw [hW4]
      refine (splitByteS r 44 w4 (by omega)).mono ?_
      rintro e w5 ⟨pv2, rfl, o5, b5⟩
      have hg1 : w3.heap.size + 1 ≤ w4.heap.size := by omega
      have hU0 : Under7 w3 w5 w3.heap.size (piVal p) [] pv2 (splitB 44 r) (.slice none 0 0) := ⟨at4.to b5, rs4.to b5, own_nil _ _, own_mono o5 hg1, fun j hj => (nomatch (show (none : Option Nat) = some j from hj)), nxt b4 b5⟩
      have HU0 : Hid (∃ v, Under7 w3 w5 w3.heap.size (piVal p) (setsTo (splitB 44 r) 0) pv2 (splitB 44 r) v) := ⟨_, hU0⟩
      obtain ⟨Ap, cp, rfl, _, _⟩ := formS_ (own_reads o5)
      have Hcc1 := hide hcc1
      clear at4 rs4 b4 z4 hW4 hU0 o5 b5 hg1 hcc1
      have hpl := splitB_len 44 r
      have Hpart : Hid (∀ q ∈ splitB 44 r, q.length ≤ 1073741824) := fun q hq => Nat.le_trans (splitB_part hq) (by omega)
      generalize hps : splitB 44 r = ps at *
      have Hps := hide hps
      clear hps
      go_wp2_with fail
      go_loopw [9, 10, 11] (fun i _ _ wr => ∃ k : Nat, k ≤ ps.length ∧ i = .int .i64 k ∧ Hid (∃ v, Under7 w3 wr w3.heap.size (piVal p) (setsTo ps k) (.slice Ap ps.length cp) ps v) ∧ Hid (∀ (j : Nat) q, j < k → ps[j]? = some q → (parseSet q).2 = true) ∧ Hid (r = [] → k = 0)) (fun i _ _ _ => ps.length - (intOf i).toNat)
      case atStart => exact ⟨0, by omega, rfl, HU0, fun j q hj => absurd hj (Nat.not_lt_zero _), fun _ => rfl⟩
      case round =>
        obtain ⟨k, hk, rfl, hu, hgood, hzero⟩ := hrel
        obtain ⟨v, hU⟩ := hu.out
        have HU := hide hU
        have hcr1 := (HU.out.below.cell (p := ⟨b, o + 1, none⟩) hbl3).trans Hcc1.out
        clear hu
        by_cases hlt : k < ps.length
        · obtain ⟨A', c', hv', _, he⟩ := formS_ (own_reads hU.parts)
          cases hv'
          obtain ⟨b9, o9, q, hA, _, hp, hcell⟩ := he k hlt
          subst hA
          have hpl2 := Hpart.out q (List.mem_of_getElem? hp)
          have Hp2 := hide hp
          clear he hp hU
          cases hps2 : (parseSet q).2
          · have Hno : Hid (pcxOk l = false) := by
              show _ = _
              rw [Hok.out, setsOk_bad (p := q) (k := k) Hr0.out (by rw [Hps.out]; exact Hp2.out) hps2, Bool.and_false, Bool.false_and]
            have Hps2 := hide hps2
            clear hps2
            go_wp2_with fail
            refine (parseSetS2 q wr (by omega)).mono ?_
            rw [Hps2.out]
            rintro e w6 ⟨rfl, b6⟩
            obtain ⟨e6_0, e6_1⟩ := (At3.out.to HU.out.below).to b6
            obtain ⟨_, f0, f1⟩ := (Rs3.out.to HU.out.below).to b6
            have hr := ((Rs3.out.to HU.out.below).to b6).lt
            have B6 := hide (nxt (nxt B3.out HU.out.below) b6)
            clear b6 hcell hcr1
            go_wp2
            refine bodyPost_ret (v := .tuple #[.agg #[.int .i64 0, .slice none 0 0], .bool false]) (by simp [results, Try.results29, go_sem, e6_0, e6_1]) rfl ?_
            exact retCB_pno Hno.out (below_store B6.out (Nat.le_refl _) _ _)
          · have Hps2 := hide hps2
            have Hsn := hide (setsTo_snoc Hp2.out)
            have Hgood : Hid (∀ (j : Nat) q, j < k + 1 → ps[j]? = some q → (parseSet q).2 = true) := by
              intro j q hj hq
              rcases Nat.lt_or_ge j k with h | h
              · exact hgood.out j q h hq
              · obtain rfl : j = k := by omega
                rw [Hp2.out] at hq
                cases hq
                exact Hps2.out
            have hsl := setsTo_len ps k
            clear hps2 hgood
            go_wp2_with fail
            refine (parseSetS2 q wr (by omega)).mono ?_
            rw [Hps2.out]
            rintro e w6 ⟨rfl, b6⟩
            have HU6 : Hid (Under7 w3 w6 w3.heap.size (piVal p) (setsTo ps k) (.slice (some ⟨b9, o9, none⟩) ps.length cp) ps v) := HU.out.to b6
            have ho := HU6.out.own
            obtain ⟨e6_0, e6_1⟩ := HU6.out.box
            have hlen : (setsTo ps k).length < 17179869184 := by omega
            have hsz := HU6.out.res.lt
            have hsz' : w3.heap.size + 1 ≤ w6.heap.size := by omega
            clear b6 hcell hcr1
            go_wp2_with (at_builtin; refine wpList_appAt ho (((parseSet q).1 : Nat) : Int) Try.underlying36 infoI rfl _ _ rfl rfl rfl hlen hsz' ?_; intro v' w7 ho7 hb7 hg7 hat7; obtain ⟨hbx7, hrs7, hU7⟩ := HU6.out.step ho7 hg7 hat7; obtain ⟨_, hf70, hf71⟩ := hrs7; obtain ⟨hc70, hc71⟩ := hbx7; obtain ⟨A7, n7, c7, rfl⟩ := own_shape56 ho7)
            have HU7 : Hid (∃ v, Under7 w3 (w7.setCell ⟨w3.heap.size, 1, none⟩ (.slice A7 n7 c7)) w3.heap.size (piVal p) (setsTo ps (k + 1)) (.slice (some ⟨b9, o9, none⟩) ps.length cp) ps v) := ⟨_, by rw [Hsn.out]; exact hU7⟩
            clear hU7
            go_wp2
            go_roundw
            case rel => exact ⟨k + 1, by omega, by go_num, HU7, Hgood, fun e => absurd e Hr0.out⟩
            case measure => simp [intOf]; omega
        · have hk2 : ps.length ≤ k := by omega
          have hxs : setsTo ps k = setsXs r := by rw [setsTo_all hk2, setsXs_ne Hr0.out, Hps.out]
          have hso : setsOk r = true := setsOk_good (by rw [Hps.out]; exact fun j q hq => hgood.out j q (by have := (List.getElem?_eq_some_iff.1 hq).1; omega) hq)
          have Hok2 : Hid (pcxOk l = (piOk p && isCx (piVal p) (setsXs r))) := by show _ = _; rw [Hok.out, hso, Bool.and_true]
          have hlx : (setsXs r).length ≤ 1073741824 := by rw [← hxs]; have := setsTo_len ps k; omega
          rw [hxs] at hU
          have HV := hide hU
          obtain ⟨Av, nv, cv, rfl⟩ := own_shape56 hU.own
          have HAt1 := hide (At3.out.to HV.out.below)
          have HRs1 := hide (Rs3.out.to HV.out.below)
          have HB := hide (nxt B3.out HV.out.below)
          clear hU HU hgood hxs hso hzero
          cases hpi : piOk p
          · have Hno : Hid (pcxOk l = false) := by show _ = _; rw [Hok2.out, hpi]; rfl
            obtain ⟨x6_0, x6_1⟩ := HAt1.out
            obtain ⟨_, f0, f1⟩ := HRs1.out
            have hr := HRs1.out.lt
            go_wp2
            refine bodyPost_ret (v := .tuple #[.agg #[.int .i64 0, .slice none 0 0], .bool false]) (by simp [results, Try.results29, go_sem, x6_0, x6_1]) rfl ?_
            exact retCB_pno Hno.out (below_store HB.out (Nat.le_refl _) _ _)
          · have Hpi := hide hpi
            obtain ⟨e6_0, e6_1⟩ := HV.out.box
            go_wp2_with fail
            refine (isComplexS (piVal p) _ (setsXs r) wr (own_reads HV.out.own) hlx).mono ?_
            cases hcx : isCx (piVal p) (setsXs r)
            · have Hno : Hid (pcxOk l = false) := by show _ = _; rw [Hok2.out, hcx, Bool.and_false]
              clear hcx e6_0 e6_1
              rintro e w7 ⟨rfl, b7⟩
              obtain ⟨e7_0, e7_1⟩ := HAt1.out.to b7
              obtain ⟨_, f0, f1⟩ := HRs1.out.to b7
              have hr := (HRs1.out.to b7).lt
              have B7 := hide (nxt HB.out b7)
              clear b7
              go_wp2
              refine bodyPost_ret (v := .tuple #[.agg #[.int .i64 0, .slice none 0 0], .bool false]) (by simp [results, Try.results29, go_sem, e7_0, e7_1]) rfl ?_
              exact retCB_pno Hno.out (below_store B7.out (Nat.le_refl _) _ _)
            · have Hyes : Hid (pcxOk l = true) := by show _ = _; rw [Hok2.out, hcx, Hpi.out]; rfl
              clear hcx e6_0 e6_1
              rintro e w7 ⟨rfl, b7⟩
              obtain ⟨e7_0, e7_1⟩ := HV.out.box.to b7
              obtain ⟨⟨q0, q1, h70, h71⟩, f0, f1⟩ := HRs1.out.to b7
              have hr := (HRs1.out.to b7).lt
              have hr2 := (HV.out.res.to b7).lt
              have Hle : Hid (w.heap.size < w3.heap.size) := Rs3.out.lt
              have Hne : Hid (w.heap.size ≠ w3.heap.size) := by have := Hle.out; show _ ≠ _; omega
              have hne2 := Hne.out
              have HO := hide (own_below HV.out.own b7)
              have B7 := hide (nxt HB.out b7)
              clear b7
              go_wp2
              refine bodyPost_ret (v := .tuple #[.agg #[.int .i64 (piVal p), .slice Av nv cv], .bool true]) (by simp [results, Try.results29, go_sem, h70, h71]) rfl ?_
              refine retCB_syes Hs.out Hyes.out (own_setNe (own_setNe (own_mono HO.out (by have := Hle.out; omega)) (fun j hj => by have := (own_block HO.out j hj).1; have := Hle.out; omega) _ _) (fun j hj => by have := (own_block HO.out j hj).1; have := Hle.out; omega) _ _) (below_store B7.out (Nat.le_refl _) _ _)
  · have hne2 : ((splitB 58 l).length : Int) ≠ 2 := by
      intro e
      exact h2 (by show (splitB 58 l).length = 2; omega)
    have hne : (((splitB 58 l).length : Int) != 2) = true := by simpa using hne2
    have Hno : Hid (pcxOk l = false) := by
      show _ = _
      rw [← (pcs_eq l).1]
      unfold pcsOk
      rw [decide_eq_false h2]
      rfl
    clear h2 hne2
    go_enter Try.func29, Try.ntmps29
    go_wp2_with fail
    clear hW1
    refine Calls.mono Hp.out ?_
    rintro e w2 ⟨pv, rfl, o2, b2⟩
    obtain ⟨e2_0, e2_1⟩ := At1.out.to b2
    obtain ⟨_, f0, f1⟩ := Rs1.out.to b2
    have hr := (Rs1.out.to b2).lt
    have B2 := hide (nxt B1.out b2)
    obtain ⟨A2, c2, rfl, _, he2⟩ := formS_ (own_reads o2)
    clear b2 o2 he2
    go_wp2
    refine bodyPost_ret (v := .tuple #[.agg #[.int .i64 0, .slice none 0 0], .bool false]) (by simp [results, Try.results29, go_sem, e2_0, e2_1]) rfl ?_
    exact retCB_pno Hno.out (below_store B2.out (Nat.le_refl _) _ _)
end Go.Proofs.Ytmkacjpjcfffmaa
