/- Texts of one kind, laid together (4 of them). -/
import Derived.Deep.RegionLaw
import Derived.Maps.AppendAt
import Derived.Test.YtmkacjpjcfffmaaP2
import Derived.Test.YtmkacjpjcfffmaaP5
import Derived.Test.YtmkacjpjcfffmaaP6
import Derived.Test.YtmkacjpjcfffmaaP7
import Derived.Test.YtmkacjpjcfffmaaP9
import Derived.Test.YtmkacjpjcfffmaaP10
namespace Go.Proofs.Ytmkacjpjcfffmaa
/- Walks: ParseComplex in the reference. -/
section
open Go.RowKit

theorem pcs_vals {l : List UInt8} {p r : List UInt8} (hs : pcs l = [p, r]) : pcsOk l = (piOk p && setsOk r && isCx (piVal p) (setsXs r)) := by
  unfold pcsOk
  rw [hs]
  rfl
theorem pcx_of {l p r : List UInt8} (hs : pcs l = [p, r]) : pcxOk l = (piOk p && setsOk r && isCx (piVal p) (setsXs r)) := by
  rw [← (pcs_eq l).1, pcs_vals hs]
theorem retCB_syes {w w' : World} {l p r : List UInt8} (hs : pcs l = [p, r]) (h : pcxOk l = true) {v : Value} (ho : OwnV 3 w' w.heap.size v (ints (setsXs r))) (hb : Below w.heap.size w w') : RetCB 3 w (pcxN l) (pcxXs l) (pcxOk l) (.returned (.tuple #[.agg #[.int .i64 (piVal p), v], .bool true])) w' := by
  obtain ⟨h1, h2⟩ := (pcs_eq l).2 h
  rw [hs] at h1 h2
  have h1' : piVal p = headN l := h1
  have h2' : setsXs r = setsXs (l.drop 2) := h2
  exact retCB_pyes h h1'.symm h2'.symm ho hb

set_option maxHeartbeats 1600000 in
theorem parseComplexS (l : List UInt8) (w : World) (hl : l.length ≤ 1073741000) :
    Calls Try.prog 29 #[.string ⟨l.toArray⟩] w fun e w' => RetCB 3 w (pcxN l) (pcxXs l) (pcxOk l) e w' := by
  obtain ⟨w1, hW1, at1, rs1, b1, z1⟩ := boxRes w 42
  have Rs1 := hide rs1
  have B1 := hide b1
  have At1 := hide at1
  have hp := splitByteS l 58 w1 (by omega)
  have Hp := hide hp
  clear at1 rs1 b1 z1 hp
  by_cases h2 : (pcs l).length = 2
  · obtain ⟨p, r, hlpr, _, _, hs⟩ := pcs_two h2
    have hs' : splitB 58 l = [p, r] := hs
    have hplen : p.length ≤ 1073741000 := by rw [hlpr] at hl; simp at hl; omega
    have hrl : r.length ≤ 1073741000 := by rw [hlpr] at hl; simp at hl; omega
    have Hs := hide hs
    have Hs' := hide hs'
    have Hok := hide (pcx_of hs)
    clear h2 hs hs' hlpr
    go_enter Try.func29, Try.ntmps29
    go_wp2_with fail
    clear hW1
    refine Calls.mono Hp.out ?_
    rw [Hs'.out]
    rintro e w2 ⟨pv, rfl, o2, b2⟩
    have At2 := hide (At1.out.to b2)
    have Rs2 := hide (Rs1.out.to b2)
    have B2 := hide (nxt B1.out b2)
    have O2 := hide o2
    obtain ⟨A2, c2, rfl, _, he2⟩ := formS_ (own_reads o2)
    obtain ⟨b, o, p', hA, _, hp', hcell0⟩ := he2 0 (by simp)
    obtain ⟨b', o', r', hA', _, hr', hcell1⟩ := he2 1 (by simp)
    subst hA
    cases hA'
    cases hp'
    cases hr'
    rw [Nat.add_zero] at hcell0
    have hbl := World.block_lt_of_cell? _ _ hcell0
    clear b2 o2 he2
    by_cases hr0 : r = []
    · have hone0 : (splitB 44 r).length = 1 := by rw [hr0]; rfl
      have Hr0 := hide hr0
      clear hr0
      go_wp2_with fail
      refine (parseIntS p w2 (by omega)).mono ?_
      rintro e w3 ⟨rfl, b3⟩
      have At3 := hide (At2.out.to b3)
      have Rs3 := hide (Rs2.out.to b3)
      have B3 := hide (nxt B2.out b3)
      have hcc1 := (b3.cell (p := ⟨b, o + 1, none⟩) hbl).trans hcell1
      have hbl3 := World.block_lt_of_cell? _ _ hcc1
      clear b3 hcell0 hcell1
      go_wp2_with fail
      obtain ⟨w4, hW4, at4, b4, z4⟩ := boxC w3 (.int .i64 (piVal p)) (.slice none 0 0) 42
      have rs4 : Res w3.heap.size w4 := by rw [← hW4]; exact ⟨⟨_, _, World.cell?_alloc_at _ _ _ _ rfl, World.cell?_alloc_at _ _ _ _ rfl⟩, by simp [go_sem], by simp [go_sem]⟩
      rw [hW4]
      refine (splitByteS r 44 w4 (by omega)).mono ?_
      rintro e w5 ⟨pv2, rfl, o5, b5⟩
      have hg1 : w3.heap.size + 1 ≤ w4.heap.size := by omega
      have hU0 : Under7 w3 w5 w3.heap.size (piVal p) [] pv2 (splitB 44 r) (.slice none 0 0) := ⟨at4.to b5, rs4.to b5, own_nil _ _, own_mono o5 hg1, fun j hj => (nomatch (show (none : Option Nat) = some j from hj)), nxt b4 b5⟩
      have HU0 : Hid (∃ v, Under7 w3 w5 w3.heap.size (piVal p) (setsTo (splitB 44 r) 0) pv2 (splitB 44 r) v) := ⟨_, hU0⟩
      obtain ⟨Ap, cp, rfl, _, _⟩ := formS_ (own_reads o5)
      have Hcc1 := hide hcc1
      clear at4 rs4 b4 z4 hW4 hU0 o5 b5 hg1 hcc1
      have hpl := splitB_len 44 r
      have Hpart : Hid (∀ q ∈ splitB 44 r, q.length ≤ 1073741824) := fun q hq => Nat.le_trans (splitB_part hq) (by omega)
      generalize hps : splitB 44 r = ps at *
      have Hps := hide hps
      clear hps
      go_wp2_with fail
      go_loopw [9, 10, 11] (fun i _ _ wr => ∃ k : Nat, k ≤ ps.length ∧ i = .int .i64 k ∧ Hid (∃ v, Under7 w3 wr w3.heap.size (piVal p) (setsTo ps k) (.slice Ap ps.length cp) ps v) ∧ Hid (∀ (j : Nat) q, j < k → ps[j]? = some q → (parseSet q).2 = true) ∧ Hid (r = [] → k = 0)) (fun i _ _ _ => ps.length - (intOf i).toNat)
      case atStart => exact ⟨0, by omega, rfl, HU0, fun j q hj => absurd hj (Nat.not_lt_zero _), fun _ => rfl⟩
      case round =>
        obtain ⟨k, hk, rfl, hu, hgood, hzero⟩ := hrel
        obtain ⟨v, hU⟩ := hu.out
        have HU := hide hU
        have hcr1 := (HU.out.below.cell (p := ⟨b, o + 1, none⟩) hbl3).trans Hcc1.out
        clear hu
        obtain rfl : k = 0 := hzero.out Hr0.out
        have hxs : setsTo ps 0 = setsXs r := by rw [Hr0.out]; rfl
        have hso : setsOk r = true := by rw [Hr0.out]; rfl
        have hee : (r == []) = true := by rw [Hr0.out]; rfl
        have hee2 : (r != []) = false := by rw [Hr0.out]; rfl
        have Hok2 : Hid (pcxOk l = (piOk p && isCx (piVal p) (setsXs r))) := by show _ = _; rw [Hok.out, hso, Bool.and_true]
        have hlx : (setsXs r).length ≤ 1073741824 := by rw [← hxs]; have := setsTo_len ps 0; omega
        rw [hxs] at hU
        have HV := hide hU
        obtain ⟨Av, nv, cv, rfl⟩ := own_shape56 hU.own
        have HAt1 := hide (At3.out.to HV.out.below)
        have HRs1 := hide (Rs3.out.to HV.out.below)
        have HB := hide (nxt B3.out HV.out.below)
        clear hU HU hgood hxs hso hzero
        cases hpi : piOk p
        · have Hno : Hid (pcxOk l = false) := by show _ = _; rw [Hok2.out, hpi]; rfl
          obtain ⟨x6_0, x6_1⟩ := HAt1.out
          obtain ⟨_, f0, f1⟩ := HRs1.out
          have hr := HRs1.out.lt
          go_wp2
          refine bodyPost_ret (v := .tuple #[.agg #[.int .i64 0, .slice none 0 0], .bool false]) (by simp [results, Try.results29, go_sem, x6_0, x6_1]) rfl ?_
          exact retCB_pno Hno.out (below_store HB.out (Nat.le_refl _) _ _)
        · have Hpi := hide hpi
          obtain ⟨e6_0, e6_1⟩ := HV.out.box
          go_wp2_with fail
          refine (isComplexS (piVal p) _ (setsXs r) wr (own_reads HV.out.own) hlx).mono ?_
          cases hcx : isCx (piVal p) (setsXs r)
          · have Hno : Hid (pcxOk l = false) := by show _ = _; rw [Hok2.out, hcx, Bool.and_false]
            clear hcx e6_0 e6_1
            rintro e w7 ⟨rfl, b7⟩
            obtain ⟨e7_0, e7_1⟩ := HAt1.out.to b7
            obtain ⟨_, f0, f1⟩ := HRs1.out.to b7
            have hr := (HRs1.out.to b7).lt
            have B7 := hide (nxt HB.out b7)
            clear b7
            go_wp2
            refine bodyPost_ret (v := .tuple #[.agg #[.int .i64 0, .slice none 0 0], .bool false]) (by simp [results, Try.results29, go_sem, e7_0, e7_1]) rfl ?_
            exact retCB_pno Hno.out (below_store B7.out (Nat.le_refl _) _ _)
          · have Hyes : Hid (pcxOk l = true) := by show _ = _; rw [Hok2.out, hcx, Hpi.out]; rfl
            clear hcx e6_0 e6_1
            rintro e w7 ⟨rfl, b7⟩
            obtain ⟨e7_0, e7_1⟩ := HV.out.box.to b7
            obtain ⟨⟨q0, q1, h70, h71⟩, f0, f1⟩ := HRs1.out.to b7
            have hr := (HRs1.out.to b7).lt
            have hr2 := (HV.out.res.to b7).lt
            have Hle : Hid (w.heap.size < w3.heap.size) := Rs3.out.lt
            have Hne : Hid (w.heap.size ≠ w3.heap.size) := by have := Hle.out; show _ ≠ _; omega
            have hne2 := Hne.out
            have HO := hide (own_below HV.out.own b7)
            have B7 := hide (nxt HB.out b7)
            clear b7
            go_wp2
            refine bodyPost_ret (v := .tuple #[.agg #[.int .i64 (piVal p), .slice Av nv cv], .bool true]) (by simp [results, Try.results29, go_sem, h70, h71]) rfl ?_
            refine retCB_syes Hs.out Hyes.out (own_setNe (own_setNe (own_mono HO.out (by have := Hle.out; omega)) (fun j hj => by have := (own_block HO.out j hj).1; have := Hle.out; omega) _ _) (fun j hj => by have := (own_block HO.out j hj).1; have := Hle.out; omega) _ _) (below_store B7.out (Nat.le_refl _) _ _)
    · have hee : (r == []) = false := by simpa using hr0
      have hee2 : (r != []) = true := by rw [bne, hee]; rfl
      have Hr0 := hide hr0
      clear hr0
      go_wp2_with fail
      refine (parseIntS p w2 (by omega)).mono ?_
      rintro e w3 ⟨rfl, b3⟩
      have At3 := hide (At2.out.to b3)
      have Rs3 := hide (Rs2.out.to b3)
      have B3 := hide (nxt B2.out b3)
      have hcc1 := (b3.cell (p := ⟨b, o + 1, none⟩) hbl).trans hcell1
      have hbl3 := World.block_lt_of_cell? _ _ hcc1
      clear b3 hcell0 hcell1
      go_wp2_with fail
      obtain ⟨w4, hW4, at4, b4, z4⟩ := boxC w3 (.int .i64 (piVal p)) (.slice none 0 0) 42
      have rs4 : Res w3.heap.size w4 := by rw [← hW4]; exact ⟨⟨_, _, World.cell?_alloc_at _ _ _ _ rfl, World.cell?_alloc_at _ _ _ _ rfl⟩, by simp [go_sem], by simp [go_sem]⟩
      rw [hW4]
      refine (splitByteS r 44 w4 (by omega)).mono ?_
      rintro e w5 ⟨pv2, rfl, o5, b5⟩
      have hg1 : w3.heap.size + 1 ≤ w4.heap.size := by omega
      have hU0 : Under7 w3 w5 w3.heap.size (piVal p) [] pv2 (splitB 44 r) (.slice none 0 0) := ⟨at4.to b5, rs4.to b5, own_nil _ _, own_mono o5 hg1, fun j hj => (nomatch (show (none : Option Nat) = some j from hj)), nxt b4 b5⟩
      have HU0 : Hid (∃ v, Under7 w3 w5 w3.heap.size (piVal p) (setsTo (splitB 44 r) 0) pv2 (splitB 44 r) v) := ⟨_, hU0⟩
      obtain ⟨Ap, cp, rfl, _, _⟩ := formS_ (own_reads o5)
      have Hcc1 := hide hcc1
      clear at4 rs4 b4 z4 hW4 hU0 o5 b5 hg1 hcc1
      have hpl := splitB_len 44 r
      have Hpart : Hid (∀ q ∈ splitB 44 r, q.length ≤ 1073741824) := fun q hq => Nat.le_trans (splitB_part hq) (by omega)
      generalize hps : splitB 44 r = ps at *
      have Hps := hide hps
      clear hps
      go_wp2_with fail
      go_loopw [9, 10, 11] (fun i _ _ wr => ∃ k : Nat, k ≤ ps.length ∧ i = .int .i64 k ∧ Hid (∃ v, Under7 w3 wr w3.heap.size (piVal p) (setsTo ps k) (.slice Ap ps.length cp) ps v) ∧ Hid (∀ (j : Nat) q, j < k → ps[j]? = some q → (parseSet q).2 = true) ∧ Hid (r = [] → k = 0)) (fun i _ _ _ => ps.length - (intOf i).toNat)
      case atStart => exact ⟨0, by omega, rfl, HU0, fun j q hj => absurd hj (Nat.not_lt_zero _), fun _ => rfl⟩
      case round =>
        obtain ⟨k, hk, rfl, hu, hgood, hzero⟩ := hrel
        obtain ⟨v, hU⟩ := hu.out
        have HU := hide hU
        have hcr1 := (HU.out.below.cell (p := ⟨b, o + 1, none⟩) hbl3).trans Hcc1.out
        clear hu
        by_cases hlt : k < ps.length
        · obtain ⟨A', c', hv', _, he⟩ := formS_ (own_reads hU.parts)
          cases hv'
          obtain ⟨b9, o9, q, hA, _, hp, hcell⟩ := he k hlt
          subst hA
          have hpl2 := Hpart.out q (List.mem_of_getElem? hp)
          have Hp2 := hide hp
          clear he hp hU
          cases hps2 : (parseSet q).2
          · have Hno : Hid (pcxOk l = false) := by
              show _ = _
              rw [Hok.out, setsOk_bad (p := q) (k := k) Hr0.out (by rw [Hps.out]; exact Hp2.out) hps2, Bool.and_false, Bool.false_and]
            have Hps2 := hide hps2
            clear hps2
            go_wp2_with fail
            refine (parseSetS2 q wr (by omega)).mono ?_
            rw [Hps2.out]
            rintro e w6 ⟨rfl, b6⟩
            obtain ⟨e6_0, e6_1⟩ := (At3.out.to HU.out.below).to b6
            obtain ⟨_, f0, f1⟩ := (Rs3.out.to HU.out.below).to b6
            have hr := ((Rs3.out.to HU.out.below).to b6).lt
            have B6 := hide (nxt (nxt B3.out HU.out.below) b6)
            clear b6 hcell hcr1
            go_wp2
            refine bodyPost_ret (v := .tuple #[.agg #[.int .i64 0, .slice none 0 0], .bool false]) (by simp [results, Try.results29, go_sem, e6_0, e6_1]) rfl ?_
            exact retCB_pno Hno.out (below_store B6.out (Nat.le_refl _) _ _)
          · have Hps2 := hide hps2
            have Hsn := hide (setsTo_snoc Hp2.out)
            have Hgood : Hid (∀ (j : Nat) q, j < k + 1 → ps[j]? = some q → (parseSet q).2 = true) := by
              intro j q hj hq
              rcases Nat.lt_or_ge j k with h | h
              · exact hgood.out j q h hq
              · obtain rfl : j = k := by omega
                rw [Hp2.out] at hq
                cases hq
                exact Hps2.out
            have hsl := setsTo_len ps k
            clear hps2 hgood
            go_wp2_with fail
            refine (parseSetS2 q wr (by omega)).mono ?_
            rw [Hps2.out]
            rintro e w6 ⟨rfl, b6⟩
            have HU6 : Hid (Under7 w3 w6 w3.heap.size (piVal p) (setsTo ps k) (.slice (some ⟨b9, o9, none⟩) ps.length cp) ps v) := HU.out.to b6
            have ho := HU6.out.own
            obtain ⟨e6_0, e6_1⟩ := HU6.out.box
            have hlen : (setsTo ps k).length < 17179869184 := by omega
            have hsz := HU6.out.res.lt
            have hsz' : w3.heap.size + 1 ≤ w6.heap.size := by omega
            clear b6 hcell hcr1
            go_wp2_with (at_builtin; refine wpList_appAt ho (((parseSet q).1 : Nat) : Int) Try.underlying36 infoI rfl _ _ rfl rfl rfl hlen hsz' ?_; intro v' w7 ho7 hb7 hg7 hat7; obtain ⟨hbx7, hrs7, hU7⟩ := HU6.out.step ho7 hg7 hat7; obtain ⟨_, hf70, hf71⟩ := hrs7; obtain ⟨hc70, hc71⟩ := hbx7; obtain ⟨A7, n7, c7, rfl⟩ := own_shape56 ho7)
            have HU7 : Hid (∃ v, Under7 w3 (w7.setCell ⟨w3.heap.size, 1, none⟩ (.slice A7 n7 c7)) w3.heap.size (piVal p) (setsTo ps (k + 1)) (.slice (some ⟨b9, o9, none⟩) ps.length cp) ps v) := ⟨_, by rw [Hsn.out]; exact hU7⟩
            clear hU7
            go_wp2
            go_roundw
            case rel => exact ⟨k + 1, by omega, by go_num, HU7, Hgood, fun e => absurd e Hr0.out⟩
            case measure => simp [intOf]; omega
        · have hk2 : ps.length ≤ k := by omega
          have hxs : setsTo ps k = setsXs r := by rw [setsTo_all hk2, setsXs_ne Hr0.out, Hps.out]
          have hso : setsOk r = true := setsOk_good (by rw [Hps.out]; exact fun j q hq => hgood.out j q (by have := (List.getElem?_eq_some_iff.1 hq).1; omega) hq)
          have Hok2 : Hid (pcxOk l = (piOk p && isCx (piVal p) (setsXs r))) := by show _ = _; rw [Hok.out, hso, Bool.and_true]
          have hlx : (setsXs r).length ≤ 1073741824 := by rw [← hxs]; have := setsTo_len ps k; omega
          rw [hxs] at hU
          have HV := hide hU
          obtain ⟨Av, nv, cv, rfl⟩ := own_shape56 hU.own
          have HAt1 := hide (At3.out.to HV.out.below)
          have HRs1 := hide (Rs3.out.to HV.out.below)
          have HB := hide (nxt B3.out HV.out.below)
          clear hU HU hgood hxs hso hzero
          cases hpi : piOk p
          · have Hno : Hid (pcxOk l = false) := by show _ = _; rw [Hok2.out, hpi]; rfl
            obtain ⟨x6_0, x6_1⟩ := HAt1.out
            obtain ⟨_, f0, f1⟩ := HRs1.out
            have hr := HRs1.out.lt
            go_wp2
            refine bodyPost_ret (v := .tuple #[.agg #[.int .i64 0, .slice none 0 0], .bool false]) (by simp [results, Try.results29, go_sem, x6_0, x6_1]) rfl ?_
            exact retCB_pno Hno.out (below_store HB.out (Nat.le_refl _) _ _)
          · have Hpi := hide hpi
            obtain ⟨e6_0, e6_1⟩ := HV.out.box
            go_wp2_with fail
            refine (isComplexS (piVal p) _ (setsXs r) wr (own_reads HV.out.own) hlx).mono ?_
            cases hcx : isCx (piVal p) (setsXs r)
            · have Hno : Hid (pcxOk l = false) := by show _ = _; rw [Hok2.out, hcx, Bool.and_false]
              clear hcx e6_0 e6_1
              rintro e w7 ⟨rfl, b7⟩
              obtain ⟨e7_0, e7_1⟩ := HAt1.out.to b7
              obtain ⟨_, f0, f1⟩ := HRs1.out.to b7
              have hr := (HRs1.out.to b7).lt
              have B7 := hide (nxt HB.out b7)
              clear b7
              go_wp2
              refine bodyPost_ret (v := .tuple #[.agg #[.int .i64 0, .slice none 0 0], .bool false]) (by simp [results, Try.results29, go_sem, e7_0, e7_1]) rfl ?_
              exact retCB_pno Hno.out (below_store B7.out (Nat.le_refl _) _ _)
            · have Hyes : Hid (pcxOk l = true) := by show _ = _; rw [Hok2.out, hcx, Hpi.out]; rfl
              clear hcx e6_0 e6_1
              rintro e w7 ⟨rfl, b7⟩
              obtain ⟨e7_0, e7_1⟩ := HV.out.box.to b7
              obtain ⟨⟨q0, q1, h70, h71⟩, f0, f1⟩ := HRs1.out.to b7
              have hr := (HRs1.out.to b7).lt
              have hr2 := (HV.out.res.to b7).lt
              have Hle : Hid (w.heap.size < w3.heap.size) := Rs3.out.lt
              have Hne : Hid (w.heap.size ≠ w3.heap.size) := by have := Hle.out; show _ ≠ _; omega
              have hne2 := Hne.out
              have HO := hide (own_below HV.out.own b7)
              have B7 := hide (nxt HB.out b7)
              clear b7
              go_wp2
              refine bodyPost_ret (v := .tuple #[.agg #[.int .i64 (piVal p), .slice Av nv cv], .bool true]) (by simp [results, Try.results29, go_sem, h70, h71]) rfl ?_
              refine retCB_syes Hs.out Hyes.out (own_setNe (own_setNe (own_mono HO.out (by have := Hle.out; omega)) (fun j hj => by have := (own_block HO.out j hj).1; have := Hle.out; omega) _ _) (fun j hj => by have := (own_block HO.out j hj).1; have := Hle.out; omega) _ _) (below_store B7.out (Nat.le_refl _) _ _)
  · have hne2 : ((splitB 58 l).length : Int) ≠ 2 := by
      intro e
      exact h2 (by show (splitB 58 l).length = 2; omega)
    have hne : (((splitB 58 l).length : Int) != 2) = true := by simpa using hne2
    have Hno : Hid (pcxOk l = false) := by
      show _ = _
      rw [← (pcs_eq l).1]
      unfold pcsOk
      rw [decide_eq_false h2]
      rfl
    clear h2 hne2
    go_enter Try.func29, Try.ntmps29
    go_wp2_with fail
    clear hW1
    refine Calls.mono Hp.out ?_
    rintro e w2 ⟨pv, rfl, o2, b2⟩
    obtain ⟨e2_0, e2_1⟩ := At1.out.to b2
    obtain ⟨_, f0, f1⟩ := Rs1.out.to b2
    have hr := (Rs1.out.to b2).lt
    have B2 := hide (nxt B1.out b2)
    obtain ⟨A2, c2, rfl, _, he2⟩ := formS_ (own_reads o2)
    clear b2 o2 he2
    go_wp2
    refine bodyPost_ret (v := .tuple #[.agg #[.int .i64 0, .slice none 0 0], .bool false]) (by simp [results, Try.results29, go_sem, e2_0, e2_1]) rfl ?_
    exact retCB_pno Hno.out (below_store B2.out (Nat.le_refl _) _ _)
end

/- Walks: BorderComplex. -/
section
open Go.RowKit

/-- All sets of n points but the fullest: of both makings. -/
def full (n : Nat) : Nat := 2 ^ n - 1
def borderSets (n : Nat) : List Int := zs (List.range (full n))
theorem borderSets_snoc (k : Nat) : zs (List.range (k + 1)) = zs (List.range k) ++ [(k : Int)] := by rw [List.range_succ, zs_snoc]
theorem full_lt {n : Nat} (h : n ≤ 6) : full n < 64 := by
  have := Nat.pow_le_pow_right (n := 2) (by omega) h
  unfold full
  have := Nat.two_pow_pos n
  omega
theorem border_all {n : Nat} (h : n ≤ 6) : allSets (borderSets n) = true := by
  refine List.all_eq_true.2 fun x hx => decide_eq_true ?_
  obtain ⟨k, hk, rfl⟩ := List.mem_map.1 hx
  have := List.mem_range.1 hk
  have := full_lt h
  constructor <;> omega
theorem border_in (m s : Nat) : inList (zs (List.range m)) s = decide (s < m) := by
  unfold inList
  rw [Bool.eq_iff_iff, List.contains_iff_mem]
  simp [zs]
  constructor
  · rintro ⟨a, h, e⟩
    omega
  · intro h
    exact ⟨s, h, rfl⟩
def borderP (n : Nat) (s : Nat) : Bool := sub s (full n) && s != full n
def borderEq (n s : Nat) : Bool := borderP n s == decide (s < full n)
theorem borderEq_all : ((List.range 7).all fun n => (List.range 64).all fun s => borderEq n s) = true := by decide +kernel
theorem border_eq {n s : Nat} (hn : n ≤ 6) (hs : s < 64) : borderP n s = decide (s < full n) := by
  have h1 := List.all_eq_true.1 (List.all_eq_true.1 borderEq_all n (List.mem_range.2 (by omega))) s (List.mem_range.2 hs)
  unfold borderEq at h1
  simpa using h1
theorem border_max {n : Nat} (hn : n ≤ 6) : maxOf (borderP n) = maxOf (inList (borderSets n)) := maxOf_congr fun s hs => by rw [border_eq hn hs]; exact (border_in _ _).symm
theorem border_fam : ∀ n : Nat, 1 ≤ n → n ≤ 6 → bits BinOp.andNot IntKind.u64 ((fam (fun u => sub u (full n)) : Nat) : Int) (IntKind.u64.wrap (2 ^ full n)) = ((fam (borderP n) : Nat) : Int) := by
  intro n h1 h6
  rcases (by omega : n = 1 ∨ n = 2 ∨ n = 3 ∨ n = 4 ∨ n = 5 ∨ n = 6) with rfl | rfl | rfl | rfl | rfl | rfl <;> decide +kernel
theorem full_wrap : ∀ n : Nat, 1 ≤ n → n ≤ 6 → wrap64 (wrap64 (2 ^ ((n : Int)).toNat) - 1) = ((full n : Nat) : Int) := by
  intro n h1 h6
  rcases (by omega : n = 1 ∨ n = 2 ∨ n = 3 ∨ n = 4 ∨ n = 5 ∨ n = 6) with rfl | rfl | rfl | rfl | rfl | rfl <;> decide +kernel
theorem full_wrap2 (n : Nat) (h1 : 1 ≤ n) (h6 : n ≤ 6) : wrap64 (wrap64 (2 ^ n) - 1) = ((full n : Nat) : Int) := by
  have := full_wrap n h1 h6
  rwa [Int.toNat_natCast] at this
def borderOk (n : Int) : Bool := decide (1 ≤ n ∧ n ≤ 6)
def borderN (n : Int) : Int := if 1 ≤ n ∧ n ≤ 6 then n else 0
def borderXs (n : Int) : List Int := if 1 ≤ n ∧ n ≤ 6 then zs (maxOf (inList (borderSets n.toNat))) else []
theorem zs_len16 (l : List Nat) : (zs l).length = l.length := List.length_map _
theorem borderXs_len (n : Int) : (borderXs n).length ≤ 448 := by
  unfold borderXs
  split
  · rw [zs_len16]; exact maxOf_len _
  · simp
theorem retCB_border {w w' : World} {n : Nat} (h : 1 ≤ n ∧ n ≤ 6) {v : Value} (ho : OwnV 3 w' w.heap.size v (ints (zs (maxOf (inList (borderSets n)))))) (hb : Below w.heap.size w w') : RetCB 3 w (borderN n) (borderXs n) (borderOk n) (.returned (.tuple #[.agg #[.int .i64 (n : Int), v], .bool true])) w' := by
  unfold borderN borderXs borderOk
  have h' : (1 : Int) ≤ (n : Int) ∧ (n : Int) ≤ 6 := by omega
  rw [if_pos h', if_pos h', decide_eq_true h']
  exact ⟨_, rfl, ho, hb⟩
theorem retCB_noBorder {w w' : World} {n : Int} (h : ¬ (1 ≤ n ∧ n ≤ 6)) (hb : Below w.heap.size w w') : RetCB 3 w (borderN n) (borderXs n) (borderOk n) (.returned (.tuple #[.agg #[.int .i64 0, .slice none 0 0], .bool false])) w' := by
  unfold borderN borderXs borderOk
  rw [if_neg h, if_neg h, decide_eq_false h]
  exact ⟨_, rfl, own_nil _ _, hb⟩

theorem borderComplexS (n : Int) (w : World) : Calls Try.prog 167 #[.int .i64 n] w fun e w' => RetCB 3 w (borderN n) (borderXs n) (borderOk n) e w' := by
  obtain ⟨w1, hW1, at1, b1, z1⟩ := boxC w (.int .i64 0) (.slice none 0 0) 42
  have Hat := hide at1
  have B1 := hide b1
  have Hfz : Hid (∀ o, w1.frozen? ⟨w.heap.size, o, none⟩ = false) := by
    intro o
    rw [← hW1]
    simp [go_sem]
  clear at1 b1
  have hf0 := Hfz.out 0
  have hf1 := Hfz.out 1
  obtain ⟨e0, e1⟩ := Hat.out
  have hwb : w.heap.size < w1.heap.size := by omega
  have Hz1 := hide z1
  clear z1
  by_cases hn : 1 ≤ n ∧ n ≤ 6
  · have Hin : Hid (inB n 1 6 = true) := inB_mk hn
    obtain ⟨m, rfl⟩ := Int.eq_ofNat_of_zero_le (by omega : 0 ≤ n)
    have Hm : Hid (1 ≤ m ∧ m ≤ 6) := by show _ ∧ _; omega
    have hw := full_wrap2 m Hm.out.1 Hm.out.2
    have hfl := full_lt Hm.out.2
    obtain ⟨h1, h2⟩ := hn
    go_enter Try.func167, Try.ntmps167
    go_wp2_with (go_at_call 120; refine (l1InS _ _ _ _).mono ?_; rw [Hin.out]; rintro e w' ⟨rfl, rfl⟩)
    clear hW1
    obtain ⟨ho, hbw⟩ : OwnV 3 (w1.alloc (.cells #[] 3)) w1.heap.size (.slice (some ⟨w1.heap.size, 0, none⟩) 0 0) (ints (zs (List.range 0))) ∧ Below w1.heap.size w1 (w1.alloc (.cells #[] 3)) := ⟨own_empty _ _, below_alloc _ _⟩
    have Ho := hide ho
    have Hbw := hide hbw
    clear ho hbw e0 e1 hf0 hf1
    go_loopw [4, 5] (fun v i wr => ∃ k : Nat, k ≤ full m ∧ i = .int .i64 k ∧ OwnV 3 wr w1.heap.size v (ints (zs (List.range k))) ∧ Below w1.heap.size w1 wr) (fun _ i _ => full m - (intOf i).toNat)
    case atStart => exact ⟨0, by omega, rfl, Ho.out, Hbw.out⟩
    case round =>
      obtain ⟨k, hk, rfl, hown, hb⟩ := hrel
      by_cases hlt : k < full m
      · have hlen : (zs (List.range k)).length < 17179869184 := by rw [zs_len16, List.length_range]; omega
        have hsz := hb.size
        have Hb := hide hb
        clear hb
        go_wp2_with (at_builtin; refine wpList_appI hown (k : Int) Try.underlying36 infoI rfl _ _ rfl rfl rfl hlen hsz ?_; intro v' w2 hown2 hb2 hg2)
        have Hown2 : Hid (OwnV 3 w2 w1.heap.size v' (ints (zs (List.range (k + 1))))) := by rw [borderSets_snoc]; exact hown2
        have Hb2 : Hid (Below w1.heap.size w1 w2) := Hb.out.trans hb2
        go_wp2
        go_roundw
        case rel => exact ⟨k + 1, by omega, by go_num, Hown2.out, Hb2.out⟩
        case measure => simp [intOf]; omega
      · obtain rfl : k = full m := by omega
        have Hr := hide (own_reads hown)
        have Hb := hide hb
        have Hall := hide (border_all Hm.out.2)
        have hlen : (borderSets m).length ≤ 1073741824 := by unfold borderSets; rw [zs_len16, List.length_range]; omega
        clear hown hb
        go_wp2_with fail
        refine (l3MakeS m _ (borderSets m) wr Hr.out hlen Hall.out).mono ?_
        rintro e w2 ⟨v', rfl, hown, hb⟩
        obtain ⟨A', c', rfl⟩ := own_shape hown
        have hz0 := Hb.out.size
        have z1 := Hz1.out
        obtain ⟨ho, hfar⟩ := own_far (C := w.heap.size + 1) (D := w.heap.size) hown (by omega) (by omega)
        have Ho2 := hide ho
        have Hfar := hide hfar
        have Hb12 := nxt Hb.out hb
        have Hb2 : Hid (Below w.heap.size w w2) := B1.out.trans (Hb12.mono (by omega))
        obtain ⟨e0, e1⟩ := Hat.out.to Hb12
        obtain ⟨hc, hf⟩ := bcell Hb12
        have hz := hb.size
        clear z1
        have f0' := (hf w.heap.size 0 hwb).trans (Hfz.out 0)
        have f1' := (hf w.heap.size 1 hwb).trans (Hfz.out 1)
        clear hown hb ho hfar hc hf Hb12
        go_wp2
        refine bodyPost_ret (v := .tuple #[.agg #[.int .i64 m, .slice A' (zs (maxOf (inList (borderSets m)))).length c'], .bool true]) (by simp [results, Try.results167, go_sem, e0, e1]) rfl ?_
        refine retCB_border Hm.out (own_setNe (own_setNe Ho2.out (fun k hk => by have := Hfar.out k hk; omega) _ _) (fun k hk => by have := Hfar.out k hk; omega) _ _) ?_
        have hbw := Hb2.out
        go_grown
  · have Hin : Hid (inB n 1 6 = false) := inB_no hn
    have H := hide hn
    clear hn
    go_enter Try.func167, Try.ntmps167
    go_wp2_with (go_at_call 120; refine (l1InS _ _ _ _).mono ?_; rw [Hin.out]; rintro e w' ⟨rfl, rfl⟩)
    refine bodyPost_ret (v := .tuple #[.agg #[.int .i64 0, .slice none 0 0], .bool false]) (by simp [results, Try.results167, go_sem, e0, e1]) rfl ?_
    refine retCB_noBorder H.out ?_
    have hbw := B1.out
    go_grown
end

/- Walks: the draws of complexes: l3Draw. -/
section
open Go.RowKit

def fewB (n : Int) (xs : List Int) : Bool := decide (-100 ≤ n ∧ n ≤ 100 ∧ xs.length ≤ 900) && xs.all fun x => decide (-100 ≤ x ∧ x ≤ 100)
theorem few_of {n : Int} {xs : List Int} (h : fewB n xs = true) : Few 900 n xs := by
  unfold fewB at h
  obtain ⟨h1, h2⟩ := Bool.and_eq_true_iff.1 h
  obtain ⟨a, b, c⟩ := of_decide_eq_true h1
  exact ⟨a, b, c, fun x hx => of_decide_eq_true (List.all_eq_true.1 h2 x hx)⟩
/-- The complexes that are drawn by their text. -/
def drawTexts : List (List UInt8) := [[54, 58, 97, 98, 99, 44, 97, 99, 100, 44, 97, 98, 101, 44, 97, 100, 101, 44, 98, 99, 102, 44, 99, 100, 102, 44, 98, 101, 102, 44, 100, 101, 102], [54, 58, 97, 99, 100, 44, 98, 99, 100, 44, 97, 98, 101, 44, 97, 99, 101, 44, 98, 100, 101, 44, 97, 98, 102, 44, 98, 99, 102, 44, 97, 100, 102, 44, 99, 101, 102, 44, 100, 101, 102], [54, 58, 97, 98, 100, 44, 97, 98, 101, 44, 97, 99, 101, 44, 98, 99, 101, 44, 99, 100, 101, 44, 97, 99, 102, 44, 98, 99, 102, 44, 97, 100, 102, 44, 98, 100, 102], [53, 58, 97, 98, 44, 98, 99, 44, 99, 100, 44, 97, 101, 44, 100, 101], [52, 58, 97, 98, 44, 98, 99, 44, 99, 100], [54, 58, 97, 98, 44, 99, 100, 44, 101, 102], [53, 58, 97, 98, 99, 44, 99, 100, 101], [52, 58, 97, 98, 99, 44, 97, 98, 100]]
theorem drawTexts_few : (drawTexts.all fun l => fewB (pcxN l) (pcxXs l) && decide (l.length ≤ 100)) = true := by decide +kernel
theorem border_few : ((List.range 7).all fun m => fewB (borderN (m : Int)) (borderXs (m : Int))) = true := by decide +kernel
set_option maxHeartbeats 1600000 in
theorem l3DrawS (p : Nat) (v : Value) (L : List UInt8) (W : World) (h : CurAt W p v L) (hL : L.length ≤ 1073741824) :
    Calls Try.prog 157 #[.pointer (some ⟨p, 0, none⟩)] W fun e W' => RetD 900 W p v L e W' := by
  have D0 := hide (Dr.start h 42)
  obtain ⟨w1, hW1⟩ : ∃ X, W.alloc (.cells #[.int .i64 0, .slice none 0 0] 42) = X := ⟨_, rfl⟩
  rw [hW1] at D0
  have hp := h.lt
  clear h
  go_enter Try.func157, Try.ntmps157
  go_wp2_with fail
  clear hW1
  refine (pickLitIntS p v L [1, 2, 3, 4, 4, 5, 5, 6] _ w1 D0.out.cur hL (by decide) (by decide)).mono ?_
  rintro e w2 ⟨x, hx, rfl, c2, g2⟩
  have D2 := hide (D0.out.draw c2 g2)
  have hx' : 1 ≤ x ∧ x ≤ 6 := by
    simp only [List.mem_cons, List.not_mem_nil, or_false] at hx
    omega
  obtain ⟨m, rfl⟩ := Int.eq_ofNat_of_zero_le (by omega : 0 ≤ x)
  have hm1 : 1 ≤ m := by omega
  have hm6 : m ≤ 6 := by omega
  clear hx hx' c2 g2 D0
  go_wp2_with fail
  refine (l1BelowS p v L _ w2 D2.out.cur hL (by omega)).mono ?_
  rintro e w3 ⟨r, hr, _, rfl, c3, g3⟩
  have D3 := hide (D2.out.draw c3 g3)
  have hz3 : W.heap.size + 1 ≤ w3.heap.size := by have := D3.out.res.lt; omega
  have Hz3 := hide hz3
  clear c3 g3 hr D2 hz3
  by_cases r0 : r = 0
  · subst r0
    go_wp2_with fail
    refine (borderComplexS (m : Int) w3).mono ?_
    rintro e w4 ⟨u, rfl, o4, b4⟩
    have Hfew := hide (few_of (List.all_eq_true.1 border_few m (List.mem_range.2 (by omega))))
    generalize borderN (m : Int) = n4 at *
    generalize borderXs (m : Int) = xs4 at *
    obtain ⟨A4, c4, rfl⟩ := own_shape o4
    have O4 : Hid (OwnV 3 w4 (W.heap.size + 1) (.slice A4 xs4.length c4) (ints xs4)) := own_mono o4 Hz3.out
    have D4 := hide (D3.out.next b4)
    clear o4 b4 D3
    obtain ⟨w5, hW5, at5, b5, z5⟩ := boxC w4 (.int .i64 n4) (.slice A4 xs4.length c4) 42
    have O5 := hide (own_below O4.out b5)
    have D5 := hide (D4.out.next b5)
    obtain ⟨e0, e1⟩ := at5
    obtain ⟨⟨q0, q1, hq0, hq1⟩, f0, f1⟩ := D5.out.res
    have hr := D5.out.res.lt
    clear b5 z5 O4 D4
    go_wp2
    refine bodyPost_ret (v := .agg #[.int .i64 n4, .slice A4 xs4.length c4]) (by simp [results, Try.results157, go_sem, hq0, hq1]) rfl ?_
    exact D5.out.done O5.out Hfew.out _ _
  · have hr0 : ((r : Int) == 0) = false := by rw [beq_eq_false_iff_ne]; omega
    by_cases r1 : r = 1
    · subst r1
      go_wp2_with fail
      refine (pickLitS p v L drawTexts _ w3 D3.out.cur hL (by decide) (by decide)).mono ?_
      rintro e w4 ⟨l, hl, rfl, c4, g4⟩
      have hfl := List.all_eq_true.1 drawTexts_few l hl
      obtain ⟨hfl1, hfl2⟩ := Bool.and_eq_true_iff.1 hfl
      have Hfew := hide (few_of hfl1)
      have hll := of_decide_eq_true hfl2
      have D4 := hide (D3.out.draw c4 g4)
      clear hfl hfl1 hfl2 c4 g4 hl D3
      go_wp2_with fail
      refine (parseComplexS l w4 (by omega)).mono ?_
      rintro e w5 ⟨u, rfl, o5, b5⟩
      have D5 := hide (D4.out.next b5)
      generalize pcxN l = n4 at *
      generalize pcxXs l = xs4 at *
      obtain ⟨A4, c4, rfl⟩ := own_shape o5
      have O5 : Hid (OwnV 3 w5 (W.heap.size + 1) (.slice A4 xs4.length c4) (ints xs4)) := own_mono o5 (by have := D4.out.res.lt; omega)
      clear o5 b5 D4
      obtain ⟨w6, hW6, at6, b6, z6⟩ := boxC w5 (.int .i64 n4) (.slice A4 xs4.length c4) 42
      have O6 := hide (own_below O5.out b6)
      have D6 := hide (D5.out.next b6)
      obtain ⟨e0, e1⟩ := at6
      obtain ⟨⟨q0, q1, hq0, hq1⟩, f0, f1⟩ := D6.out.res
      have hr := D6.out.res.lt
      clear b6 z6 O5 D5
      go_wp2
      refine bodyPost_ret (v := .agg #[.int .i64 n4, .slice A4 xs4.length c4]) (by simp [results, Try.results157, go_sem, hq0, hq1]) rfl ?_
      exact D6.out.done O6.out Hfew.out _ _
    · have hr1 : ((r : Int) == 1) = false := by rw [beq_eq_false_iff_ne]; omega
      by_cases r2 : r = 2 ∨ r = 3
      · have Hz := hide (rfl : (0 : Nat) = 0)
        rcases r2 with rfl | rfl
        all_goals (
          go_wp2_with fail
          refine (l3PureS p v L m w3 hm1 hm6 D3.out.cur hL).mono ?_
          rintro e w4 ⟨n4, u, xs4, hf4, rfl, o4, c4, g4⟩
          have Hfew := hide hf4
          obtain ⟨A4, k4, rfl⟩ := own_shape o4
          have O4 : Hid (OwnV 3 w4 (W.heap.size + 1) (.slice A4 xs4.length k4) (ints xs4)) := own_mono o4 Hz3.out
          have D4 := hide (D3.out.draw c4 g4)
          obtain ⟨⟨q0, q1, hq0, hq1⟩, f0, f1⟩ := D4.out.res
          have hr := D4.out.res.lt
          clear hf4 o4 c4 g4 D3
          go_wp2
          refine bodyPost_ret (v := .agg #[.int .i64 n4, .slice A4 xs4.length k4]) (by simp [results, Try.results157, go_sem, hq0, hq1]) rfl ?_
          exact D4.out.done O4.out Hfew.out _ _)
      · have hr2 : ((r : Int) == 2) = false := by rw [beq_eq_false_iff_ne]; omega
        have hr3 : ((r : Int) == 3) = false := by rw [beq_eq_false_iff_ne]; omega
        clear r2
        go_wp2_with fail
        refine (l3SizeS p v L m w3 hm1 hm6 D3.out.cur hL).mono ?_
        rintro e w4 ⟨n4, u, xs4, hf4, rfl, o4, c4, g4⟩
        have Hfew := hide hf4
        obtain ⟨A4, k4, rfl⟩ := own_shape o4
        have O4 : Hid (OwnV 3 w4 (W.heap.size + 1) (.slice A4 xs4.length k4) (ints xs4)) := own_mono o4 Hz3.out
        have D4 := hide (D3.out.draw c4 g4)
        obtain ⟨⟨q0, q1, hq0, hq1⟩, f0, f1⟩ := D4.out.res
        have hr := D4.out.res.lt
        clear hf4 o4 c4 g4 D3
        go_wp2
        refine bodyPost_ret (v := .agg #[.int .i64 n4, .slice A4 xs4.length k4]) (by simp [results, Try.results157, go_sem, hq0, hq1]) rfl ?_
        exact D4.out.done O4.out Hfew.out _ _
end

/- Walks: the draws of complexes: l3Bent. -/
section
open Go.RowKit

theorem below_set (w : World) (b o : Nat) (u : Value) : Below b w (w.setCell ⟨b, o, none⟩ u) := (Below.refl b w).setCell (by exact Nat.le_refl _) u
/-- A local box under way. -/
structure Bx (B b : Nat) (x y : Value) (a : World) : Prop where
  at_ : AtC a b x y
  res : Res b a
  far : B ≤ b
theorem Bx.next {B b : Nat} {x y : Value} {a c : World} (h : Bx B b x y a) (k : Below a.heap.size a c) : Bx B b x y c := ⟨h.at_.to k, h.res.to k, h.far⟩
theorem Bx.grown {B b p : Nat} {x y : Value} {a c : World} (h : Bx B b x y a) (g : a.grownBy c (some p)) (hp : p < B) : Bx B b x y c :=
  ⟨h.at_.grown g (fun e => by have := Option.some.inj e; have := h.far; omega), h.res.grown64 g (fun e => by have := Option.some.inj e; have := h.far; omega), h.far⟩
theorem Bx.new {B : Nat} (w : World) (x y : Value) (T : TypeId) (h : B ≤ w.heap.size) : Bx B w.heap.size x y (w.alloc (.cells #[x, y] T)) :=
  ⟨⟨World.cell?_alloc_at _ _ _ _ rfl, World.cell?_alloc_at _ _ _ _ rfl⟩, ⟨⟨_, _, World.cell?_alloc_at _ _ _ _ rfl, World.cell?_alloc_at _ _ _ _ rfl⟩, by simp [go_sem], by simp [go_sem]⟩, h⟩
theorem Bx.low {B b X : Nat} {x y : Value} {a c : World} (h : Bx B b x y a) (k : Below X a c) (hb : b < X) : Bx B b x y c := by
  obtain ⟨hc, hf⟩ := bcell k
  obtain ⟨⟨h0, h1⟩, ⟨⟨u0, u1, c0, c1⟩, f0, f1⟩, hB⟩ := h
  exact ⟨⟨(hc b 0 hb).trans h0, (hc b 1 hb).trans h1⟩, ⟨⟨u0, u1, (hc b 0 hb).trans c0, (hc b 1 hb).trans c1⟩, (hf b 0 hb).trans f0, (hf b 1 hb).trans f1⟩, hB⟩
theorem Bx.set0 {B b : Nat} {x y : Value} {a : World} (h : Bx B b x y a) (z : Value) : Bx B b z y (a.setCell ⟨b, 0, none⟩ z) := by
  obtain ⟨⟨h0, h1⟩, ⟨⟨u0, u1, c0, c1⟩, f0, f1⟩, hB⟩ := h
  refine ⟨⟨by simp [go_sem, h0], by simp [go_sem, h1]⟩, ⟨⟨z, u1, by simp [go_sem, h0], by simp [go_sem, c1]⟩, by simp [go_sem, f0], by simp [go_sem, f1]⟩, hB⟩
theorem Bx.set1 {B b : Nat} {x y : Value} {a : World} (h : Bx B b x y a) (z : Value) : Bx B b x z (a.setCell ⟨b, 1, none⟩ z) := by
  obtain ⟨⟨h0, h1⟩, ⟨⟨u0, u1, c0, c1⟩, f0, f1⟩, hB⟩ := h
  refine ⟨⟨by simp [go_sem, h0], by simp [go_sem, h1]⟩, ⟨⟨u0, z, by simp [go_sem, c0], by simp [go_sem, h1]⟩, by simp [go_sem, f0], by simp [go_sem, f1]⟩, hB⟩
theorem few_app {n x : Int} {xs : List Int} (h : Few 900 n xs) (h0 : -100 ≤ x) (h1 : x ≤ 100) : Few 1000 n (xs ++ [x]) := by
  obtain ⟨a, b, _, d⟩ := h
  refine ⟨a, b, by rw [List.length_append]; simp; omega, fun y hy => ?_⟩
  rcases List.mem_append.1 hy with hy | hy
  · exact d y hy
  · have : y = x := by simpa using hy
    omega
theorem few_more {n : Int} {xs : List Int} (h : Few 900 n xs) : Few 1000 n xs := ⟨h.1, h.2.1, Nat.le_trans h.2.2.1 (by decide), h.2.2.2⟩
/-- A store into a box that is no row of the call's own. -/
theorem own_setBox {B b : Nat} {x y u z : Value} {a : World} {xs : List Int} (h : OwnV 3 a B u (ints xs)) (_hb : Bx B b x y a) (hne : ∀ j, u.ownBlock = some j → b ≠ j) (o : Nat) : OwnV 3 (a.setCell ⟨b, o, none⟩ z) B u (ints xs) := own_setNe h hne _ _

/-- The append of one int as one step of a region that draws its order: what other rows keep, and where the result lies. -/
theorem step_appG {P : Program} {ops : Array Oper} {o : Oper} {a : Act} {K : Act → World → Prop} {Q : Exit → Act → World → Prop} {F : Prop} {w : World} {B : Nat} {v : Value} {xs : List Int} (y : Int) {T E : TypeId} (hown : OwnV E (w.alloc (.cells #[.int .i64 y] E)) B v (ints xs))
    (ht : P.underlying T = some (.slice E)) (he : (P.info? E).map (fun i => (i.zero, i.size, i.bytes)) = some (some (.int .i64 0), 1, 8)) (hg : o.guard = none) (s x : Operand)
    (hop : o.op = Op.call { callee := Callee.builtin Builtin.append, args := #[s, x], argTypes := #[T, T] }) (hs : a.eval s = v)
    (hx : a.eval x = .slice (some ⟨w.heap.size, 0, none⟩) 1 1) (hlen : xs.length < 17179869184) (hB : B ≤ w.heap.size)
    (hK : ∀ v' w', OwnV E w' B v' (ints (xs ++ [y])) → Below B (w.alloc (.cells #[.int .i64 y] E)) w' → (w.alloc (.cells #[.int .i64 y] E)).grownBy w' v.ownBlock → (v'.ownBlock = v.ownBlock ∨ v'.ownBlock = some (w.heap.size + 1)) → K (a.put o.dst v') w') :
    if Region.wanted o (yielded ops a.tmps) = true then Oper.wp P o a (w.alloc (.cells #[.int .i64 y] E)) K Q else F := by
  rw [if_pos (by simp [Region.wanted, hg])]
  obtain ⟨i0, hi, hz0, hz1, hz2⟩ := info_parts he
  have h0 : ∀ j u, [Value.int .i64 y][j]? = some u → (w.alloc (.cells #[.int .i64 y] E)).cell? ((⟨w.heap.size, 0, none⟩ : Addr).add j) = some u := by
    intro j u hj
    match j, hj with
    | 0, hj =>
      have h0 : some (Value.int .i64 y) = some u := hj
      cases h0
      show (w.alloc (.cells #[.int .i64 y] E)).cell? ⟨w.heap.size, 0, none⟩ = some (.int .i64 y)
      exact World.cell?_alloc_at _ _ _ _ rfl
  have h1 : ∀ u ∈ [Value.int .i64 y], u.oneCell' = true := by
    intro u hu
    simp at hu
    subst hu
    rfl
  obtain ⟨v', w', hr, h2, h3, _, h5⟩ := run_append_own_at (P := P) (w.alloc (.cells #[.int .i64 y] E)) B T o.type E i0 (.int .i64 0) 1 8 ht hi hz0 hz1 hz2 rfl (by decide) v (ints xs).length (ints xs) hown ⟨w.heap.size, 0, none⟩ 1 1 [.int .i64 y] rfl h0 h1 (by rw [ints_length]; unfold maxLen; omega) (by rw [ints_length]; omega) (by simp; omega)
  unfold Oper.wp execOp
  simp only [hop, resolve, invoke, builtin, Sem.run_bind, Sem.run_pure, Result.andThen_ok, List.map_toArray, List.map_cons, List.map_nil, hs, hx, hr]
  refine hK v' w' ?_ (grown_below h3 (by simp; omega) (fun k hk => (hown.lt k hk).1)) h3 (by simpa using h5)
  rw [ints_snoc]
  show w'.ownsRow B E 1 v' (ints xs ++ [Value.int .i64 y]).length (ints xs ++ [Value.int .i64 y])
  simpa using h2
theorem Bx.other {B b : Nat} {x y : Value} {a c : World} {row : Option Nat} (h : Bx B b x y a) (g : a.grownBy c row) (hne : row ≠ some b) : Bx B b x y c := ⟨h.at_.grown g hne, h.res.grown64 g hne, h.far⟩

set_option maxHeartbeats 1600000 in
set_option maxRecDepth 100000 in
theorem l3BentS (p : Nat) (v : Value) (L : List UInt8) (W : World) (h : CurAt W p v L) (hL : L.length ≤ 1073741824) :
    Calls Try.prog 112 #[.pointer (some ⟨p, 0, none⟩)] W fun e W' => RetD 1000 W p v L e W' := by
  have D0 := hide (Dr.start h 42)
  obtain ⟨w1, hW1⟩ : ∃ X, W.alloc (.cells #[.int .i64 0, .slice none 0 0] 42) = X := ⟨_, rfl⟩
  rw [hW1] at D0
  have hp := h.lt
  have hz1 : W.heap.size + 1 ≤ w1.heap.size := by rw [← hW1]; simp
  clear h
  go_enter Try.func112, Try.ntmps112
  go_wp2_with fail
  clear hW1
  refine (l3DrawS p v L w1 D0.out.cur hL).mono ?_
  rintro e w2 ⟨n, u, xs, hf, rfl, o2, c2, g2⟩
  have D2 := hide (D0.out.draw c2 g2)
  have O2 := hide (own_mono o2 hz1)
  obtain ⟨A, c, rfl⟩ := own_shape o2
  have Hf := hide hf
  have hz2 : W.heap.size + 1 ≤ w2.heap.size := Nat.le_trans hz1 g2.size
  clear hf o2 c2 g2 D0 hz1
  obtain ⟨w3, hW3⟩ : ∃ X, w2.alloc (.cells #[.int .i64 n, .slice A xs.length c] 42) = X := ⟨_, rfl⟩
  have hb3 := below_alloc w2 (.cells #[.int .i64 n, .slice A xs.length c] 42)
  have B3 := hide (Bx.new (B := W.heap.size + 1) w2 (.int .i64 n) (.slice A xs.length c) 42 hz2)
  rw [hW3] at hb3 B3
  have D3 := hide (D2.out.next hb3)
  have O3 := hide (own_below O2.out hb3)
  have Far : Hid (∀ j, Value.ownBlock (.slice A xs.length c) = some j → j ≠ w2.heap.size) := fun j hj => by have := (own_block O2.out j hj).2; omega
  clear hb3 O2 D2
  go_wp2_with fail
  clear hW3
  refine (l1BelowS p v L _ w3 D3.out.cur hL (by omega)).mono ?_
  rintro e w4 ⟨r, hr, _, rfl, c4, g4⟩
  have D4 := hide (D3.out.draw c4 g4)
  have O4 := hide (own_grown O3.out g4 (fun j hj e => by
    have h1 := (own_block O3.out j hj).1
    have h2 := Option.some.inj e
    omega))
  have B4 := hide (B3.out.grown g4 (by omega))
  clear hr c4 g4 D3 O3 B3
  by_cases r0 : r = 0
  · subst r0
    go_wp2_with fail
    refine (pickLitIntS p v L [0, 7, 2] _ w4 D4.out.cur hL (by decide) (by decide)).mono ?_
    rintro e w5 ⟨y, hy, rfl, c5, g5⟩
    have hy7 : 0 ≤ y ∧ y ≤ 7 := by
      simp only [List.mem_cons, List.not_mem_nil, or_false] at hy
      omega
    have D5 := hide (D4.out.draw c5 g5)
    have O5 := hide (own_grown O4.out g5 (fun j hj e => by
      have h1 := (own_block O4.out j hj).1
      have h2 := Option.some.inj e
      omega))
    have B5 := hide (B4.out.grown g5 (by omega))
    clear hy c5 g5 D4 O4 B4
    obtain ⟨w6, hW6⟩ : ∃ X, w5.setCell ⟨w2.heap.size, 0, none⟩ (.int .i64 y) = X := ⟨_, rfl⟩
    have B6 := hide (B5.out.set0 (.int .i64 y))
    have O6 := hide (own_setNe O5.out (b := w2.heap.size) (fun j hj => fun e => Far.out j hj e.symm) 0 (.int .i64 y))
    have D6 := hide (D5.out.low (B := w2.heap.size) (below_set w5 w2.heap.size 0 (.int .i64 y)) (by omega))
    rw [hW6] at B6 O6 D6
    obtain ⟨a0, a1⟩ := B5.out.at_
    obtain ⟨_, f0, f1⟩ := B5.out.res
    have hbl := B5.out.res.lt
    obtain ⟨b0, b1⟩ := B6.out.at_
    obtain ⟨⟨q0, q1, hq0, hq1⟩, k0, k1⟩ := D6.out.res
    have hr := D6.out.res.lt
    clear O5 B5 D5
    go_wp2
    refine bodyPost_ret (v := .agg #[.int .i64 y, .slice A xs.length c]) (by simp [results, Try.results112, go_sem, hq0, hq1]) rfl ?_
    exact D6.out.done O6.out ⟨by omega, by omega, Nat.le_trans Hf.out.2.2.1 (by decide), Hf.out.2.2.2⟩ _ _
  · have hr0 : ((r : Int) == 0) = false := by rw [beq_eq_false_iff_ne]; omega
    by_cases r1 : r = 1
    · subst r1
      have hl1 : xs.length ≤ 900 := Hf.out.2.2.1
      have D4d : Hid (Dr W W.heap.size p v L w4.drew) := D4.out.next (Below.refl _ _).drew
      have B4d : Hid (Bx (W.heap.size + 1) w2.heap.size (.int .i64 n) (.slice A xs.length c) w4.drew) := B4.out.next (Below.refl _ _).drew
      have O4d : Hid (OwnV 3 w4.drew (W.heap.size + 1) (.slice A xs.length c) (ints xs)) := own_below O4.out (Below.refl _ _).drew
      have hne : Hid (∀ j, Value.ownBlock (.slice A xs.length c) = some j → (some p : Option Nat) ≠ some j) := fun j hj e => by
        have h1 := (own_block O4.out j hj).1
        have h2 := Option.some.inj e
        omega
      have C4d : CurAt w4.drew p v L := D4.out.cur
      obtain ⟨a40, a41⟩ := B4d.out.at_
      obtain ⟨_, f40, f41⟩ := B4d.out.res
      have hbl4 := B4d.out.res.lt
      have hlen : xs.length < 17179869184 := by omega
      clear D4 B4 O4
      go_wp2_with fail
      go_region_law (first | (refine step_appG ((q : Int) - 1) oa Try.underlying36 infoI rfl _ _ rfl rfl rfl hlen hza ?_; intro v6 w6 ho6 hb6 hg6 hat6; obtain ⟨A6, n6, c6, rfl⟩ := own_shape56 ho6; have B6 := hide (Ba.out.other hg6 (fun e => Far.out _ e rfl)); have D6 := hide (Da.out.low hb6 (Nat.lt_succ_self _)); obtain ⟨a60, a61⟩ := B6.out.at_; obtain ⟨_, f60, f61⟩ := B6.out.res; have hbl6 := B6.out.res.lt; have hne6 : Hid (∀ j, Value.ownBlock (.slice A6 n6 c6) = some j → w2.heap.size ≠ j) := (fun j hj => by rcases hat6 with hh | hh; (· rw [hh] at hj; exact fun e => Far.out j hj e.symm); (· rw [hh] at hj; have := Option.some.inj hj; omega)); clear hat6) | (go_simp; go_at_call 115; refine (l1BelowS p v L _ _ C4d hL (by omega)).mono ?_; rintro e w5 ⟨q, hq, _, rfl, c5, g5⟩; have hq66 := hq (by omega); have hqw : IntKind.i64.wrap ((q : Int) - 1) = (q : Int) - 1 := IntWalk.i64_in _ (by omega); have D5 := hide (D4d.out.draw c5 g5); have B5 := hide (B4d.out.grown g5 (by omega)); have O5 := hide (own_grown O4d.out g5 hne.out); have ba := below_alloc w5 (.cells #[.int .i64 ((q : Int) - 1)] 3); have Da := hide (D5.out.next ba); have Ba := hide (B5.out.next ba); have oa := own_below O5.out ba; obtain ⟨a50, a51⟩ := B5.out.at_; obtain ⟨_, f50, f51⟩ := B5.out.res; obtain ⟨aa0, aa1⟩ := Ba.out.at_; obtain ⟨_, fa0, fa1⟩ := Ba.out.res; have hza := Nat.succ_le_of_lt D5.out.res.lt; have hb5l := B5.out.res.lt))
      all_goals (
        obtain ⟨w7, hW7⟩ : ∃ X, w6.setCell ⟨w2.heap.size, 1, none⟩ (.slice A6 n6 c6) = X := ⟨_, rfl⟩
        have B7 := hide (B6.out.set1 (.slice A6 n6 c6))
        have O7 := hide (own_setNe ho6 (b := w2.heap.size) hne6.out 1 (.slice A6 n6 c6))
        have D7 := hide (D6.out.low (below_set w6 w2.heap.size 1 (.slice A6 n6 c6)) (by omega))
        rw [hW7] at B7 O7 D7
        have Hf7 := hide (few_app Hf.out (by omega : -100 ≤ (q : Int) - 1) (by omega))
        obtain ⟨b0, b1⟩ := B7.out.at_
        obtain ⟨⟨q0, q1, hq0, hq1⟩, k0, k1⟩ := D7.out.res
        have hr := D7.out.res.lt
        clear a40 a41 a50 a51 aa0 aa1 a60 a61 f40 f41 f50 f51 fa0 fa1 f60 f61 ho6 hb6 hg6
        rw [hW7]
        clear hW7
        go_wp2
        refine bodyPost_ret (v := .agg #[.int .i64 n, .slice A6 n6 c6]) (by simp [results, Try.results112, go_sem, hq0, hq1]) rfl ?_
        exact D7.out.done O7.out Hf7.out _ _)
    · have hr1 : ((r : Int) == 1) = false := by rw [beq_eq_false_iff_ne]; omega
      obtain ⟨b0, b1⟩ := B4.out.at_
      obtain ⟨⟨q0, q1, hq0, hq1⟩, k0, k1⟩ := D4.out.res
      have hr := D4.out.res.lt
      go_wp2
      refine bodyPost_ret (v := .agg #[.int .i64 n, .slice A xs.length c]) (by simp [results, Try.results112, go_sem, hq0, hq1]) rfl ?_
      exact D4.out.done O4.out (few_more Hf.out) _ _
end
end Go.Proofs.Ytmkacjpjcfffmaa
