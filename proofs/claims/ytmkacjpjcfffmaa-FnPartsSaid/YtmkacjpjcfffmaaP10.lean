/- Texts of one kind, laid together (6 of them). -/
import Derived.Test.YtmkacjpjcfffmaaP1
import Derived.Test.YtmkacjpjcfffmaaP3
import Derived.Test.YtmkacjpjcfffmaaP4
import Derived.Test.YtmkacjpjcfffmaaP9
namespace Go.Proofs.Ytmkacjpjcfffmaa
/- Walks: ParseComplex in the program. -/
section
open Go.RowKit

theorem parseComplexI (l : List UInt8) (w : World) (hl : l.length ≤ 1073741000) :
    Calls Try.prog 30 #[.string ⟨l.toArray⟩] w fun e w' => RetCB 3 w (pcxN l) (pcxXs l) (pcxOk l) e w' := by
  obtain ⟨w1, hW1, at1, rs1, b1, z1⟩ := boxRes w 42
  have Rs1 := hide rs1
  have B1 := hide b1
  have At1 := hide at1
  have hp := parseHeadI l w1 (by omega)
  unfold PHead at hp
  have Hp := hide hp
  clear at1 rs1 b1 z1 hp
  cases hh : headB l
  · have Hh := hide hh
    have Hno : Hid (pcxOk l = false) := by show _ = _; unfold pcxOk; rw [hh]; rfl
    have Hn : Hid (headNum l = 0 ∧ headRest l = []) := by show _ ∧ _; unfold headNum headRest; rw [hh]; exact ⟨rfl, rfl⟩
    clear hh
    go_enter Try.func30, Try.ntmps30
    go_wp2_with fail
    clear hW1
    refine Calls.mono Hp.out ?_
    rw [Hh.out, Hn.out.1, Hn.out.2]
    rintro e w2 ⟨rfl, b2⟩
    obtain ⟨e2_0, e2_1⟩ := At1.out.to b2
    obtain ⟨_, f0, f1⟩ := Rs1.out.to b2
    have hr := (Rs1.out.to b2).lt
    have B2 := hide (nxt B1.out b2)
    clear b2
    go_wp2
    refine bodyPost_ret (v := .tuple #[.agg #[.int .i64 0, .slice none 0 0], .bool false]) (by simp [results, Try.results30, go_sem, e2_0, e2_1]) rfl ?_
    exact retCB_pno Hno.out (below_store B2.out (Nat.le_refl _) _ _)
  · have Hh := hide hh
    obtain ⟨r, hr⟩ : ∃ r, l.drop 2 = r := ⟨_, rfl⟩
    obtain ⟨n, hn⟩ : ∃ n, headN l = n := ⟨_, rfl⟩
    have Hn : Hid (headNum l = n ∧ headRest l = r) := by show _ ∧ _; unfold headNum headRest; rw [hh]; exact ⟨hn, hr⟩
    have Hok : Hid (pcxOk l = (setsOk r && isCx n (setsXs r))) := by show _ = _; unfold pcxOk; rw [hh, hr, hn]; rfl
    have Hr := hide hr
    have HN := hide hn
    have hrl : r.length ≤ 1073741000 := by rw [← hr, List.length_drop]; omega
    clear hh hr hn
    by_cases hr0 : r = []
    · subst hr0
      have Hok2 : Hid (pcxOk l = isCx n []) := by show _ = _; rw [Hok.out]; rfl
      go_enter Try.func30, Try.ntmps30
      go_wp2_with fail
      clear hW1
      refine Calls.mono Hp.out ?_
      rw [Hh.out, Hn.out.1, Hn.out.2]
      rintro e w2 ⟨rfl, b2⟩
      have At2 := hide (At1.out.to b2)
      have Rs2 := hide (Rs1.out.to b2)
      have B2 := hide (nxt B1.out b2)
      clear b2
      go_wp2_with fail
      obtain ⟨w3, hW3, at3, b3, z3⟩ := boxC w2 (.int .i64 n) (.slice none 0 0) 42
      rw [hW3]
      have At3 := hide at3
      have B3 := hide b3
      clear b3 z3 hW3
      obtain ⟨e3_0, e3_1⟩ := at3
      refine (isComplexI n _ [] w3 (ReadsV.nil_ _ _) (by simp)).mono ?_
      have HAt1 := hide (At2.out.to B3.out)
      have HRs1 := hide (Rs2.out.to B3.out)
      have HB := hide (nxt B2.out B3.out)
      cases hcx : isCx n []
      · have Hno : Hid (pcxOk l = false) := by show _ = _; rw [Hok2.out, hcx]
        clear hcx e3_0 e3_1
        rintro e w7 ⟨rfl, b7⟩
        obtain ⟨e7_0, e7_1⟩ := HAt1.out.to b7
        obtain ⟨_, f0, f1⟩ := HRs1.out.to b7
        have hr := (HRs1.out.to b7).lt
        have B7 := hide (nxt HB.out b7)
        clear b7
        go_wp2
        refine bodyPost_ret (v := .tuple #[.agg #[.int .i64 0, .slice none 0 0], .bool false]) (by simp [results, Try.results30, go_sem, e7_0, e7_1]) rfl ?_
        exact retCB_pno Hno.out (below_store B7.out (Nat.le_refl _) _ _)
      · have Hyes : Hid (pcxOk l = true) := by show _ = _; rw [Hok2.out, hcx]
        clear hcx e3_0 e3_1
        rintro e w7 ⟨rfl, b7⟩
        obtain ⟨e7_0, e7_1⟩ := At3.out.to b7
        obtain ⟨⟨q0, q1, h70, h71⟩, f0, f1⟩ := HRs1.out.to b7
        have hr := (HRs1.out.to b7).lt
        have hr2 := (At3.out.to b7).lt
        have Hle : Hid (w.heap.size < w2.heap.size) := Rs2.out.lt
        have Hne : Hid (w.heap.size ≠ w2.heap.size) := by have := Hle.out; show _ ≠ _; omega
        have hne2 := Hne.out
        have B7 := hide (nxt HB.out b7)
        clear b7
        go_wp2
        refine bodyPost_ret (v := .tuple #[.agg #[.int .i64 n, .slice none 0 0], .bool true]) (by simp [results, Try.results30, go_sem, h70, h71]) rfl ?_
        exact retCB_pyes Hyes.out HN.out (by rw [Hr.out]) (own_nil _ _) (below_store B7.out (Nat.le_refl _) _ _)
    · have hne : (r == []) = false := by simpa using hr0
      have Hr0 := hide hr0
      clear hr0
      go_enter Try.func30, Try.ntmps30
      go_wp2_with fail
      clear hW1
      refine Calls.mono Hp.out ?_
      rw [Hh.out, Hn.out.1, Hn.out.2]
      rintro e w2 ⟨rfl, b2⟩
      have At2 := hide (At1.out.to b2)
      have Rs2 := hide (Rs1.out.to b2)
      have B2 := hide (nxt B1.out b2)
      clear b2
      go_wp2_with fail
      obtain ⟨w3, hW3, at3, b3, z3⟩ := boxC w2 (.int .i64 n) (.slice none 0 0) 42
      have rs3 : Res w2.heap.size w3 := by rw [← hW3]; exact ⟨⟨_, _, World.cell?_alloc_at _ _ _ _ rfl, World.cell?_alloc_at _ _ _ _ rfl⟩, by simp [go_sem], by simp [go_sem]⟩
      rw [hW3]
      have Rs3 := hide rs3
      have At3 := hide at3
      have B3 := hide b3
      have Z3 := hide z3
      clear at3 rs3 b3 z3 hW3
      refine (splitByteI r 44 w3 (by omega)).mono ?_
      rintro e w5 ⟨pv, rfl, o5, b5⟩
      have hpl := splitB_len 44 r
      have hpart : ∀ p ∈ splitB 44 r, p.length ≤ 1073741824 := fun p hp => Nat.le_trans (splitB_part hp) (by omega)
      have Hpart := hide hpart
      have hg1 : w2.heap.size + 1 ≤ w3.heap.size := by have := Z3.out; omega
      have hU0 : Under7 w2 w5 w2.heap.size n [] pv (splitB 44 r) (.slice none 0 0) := ⟨At3.out.to b5, Rs3.out.to b5, own_nil _ _, own_mono o5 hg1, fun j hj => (nomatch (show (none : Option Nat) = some j from hj)), nxt B3.out b5⟩
      have HU0 : Hid (∃ v, Under7 w2 w5 w2.heap.size n (setsTo (splitB 44 r) 0) pv (splitB 44 r) v) := ⟨_, hU0⟩
      have hro : 0 < r.length := by
        cases r with
        | nil => exact absurd rfl Hr0.out
        | cons _ _ => simp
      obtain ⟨Ap, cp, rfl, _, _⟩ := formS_ (own_reads o5)
      clear hpart hU0 o5 b5
      generalize hps : splitB 44 r = ps at HU0 Hpart hpl
      have Hps := hide hps
      clear hps
      go_wp2_with fail
      go_loopw [9, 10, 11, 28] (fun _ _ _ i wr => ∃ k : Nat, k ≤ ps.length ∧ i = .int .i64 k ∧ Hid (∃ v, Under7 w2 wr w2.heap.size n (setsTo ps k) (.slice Ap ps.length cp) ps v) ∧ Hid (∀ (j : Nat) p, j < k → ps[j]? = some p → (parseSet p).2 = true)) (fun _ _ _ i _ => ps.length - (intOf i).toNat)
      case atStart => exact ⟨0, by omega, rfl, HU0, fun j p hj => absurd hj (Nat.not_lt_zero _)⟩
      case round =>
        obtain ⟨k, hk, rfl, hu, hgood⟩ := hrel
        obtain ⟨v, hU⟩ := hu.out
        have HU := hide hU
        clear hu
        by_cases hlt : k < ps.length
        · obtain ⟨A', c', hv', _, he⟩ := formS_ (own_reads hU.parts)
          cases hv'
          obtain ⟨b, o, p, hA, _, hp, hcell⟩ := he k hlt
          subst hA
          have hpl2 := Hpart.out p (List.mem_of_getElem? hp)
          have Hp2 := hide hp
          clear he hp hU
          cases hps2 : (parseSet p).2
          · have Hno : Hid (pcxOk l = false) := by
              show _ = _
              rw [Hok.out, setsOk_bad (p := p) (k := k) Hr0.out (by rw [Hps.out]; exact Hp2.out) hps2]
              rfl
            have Hps2 := hide hps2
            clear hps2
            go_wp2_with fail
            refine (parseSetI2 p wr (by omega)).mono ?_
            rw [Hps2.out]
            rintro e w6 ⟨rfl, b6⟩
            obtain ⟨e6_0, e6_1⟩ := (At2.out.to HU.out.below).to b6
            obtain ⟨_, f0, f1⟩ := (Rs2.out.to HU.out.below).to b6
            have hr := ((Rs2.out.to HU.out.below).to b6).lt
            have B6 := hide (nxt (nxt B2.out HU.out.below) b6)
            clear b6 hcell
            go_wp2
            refine bodyPost_ret (v := .tuple #[.agg #[.int .i64 0, .slice none 0 0], .bool false]) (by simp [results, Try.results30, go_sem, e6_0, e6_1]) rfl ?_
            exact retCB_pno Hno.out (below_store B6.out (Nat.le_refl _) _ _)
          · have Hps2 := hide hps2
            have Hsn := hide (setsTo_snoc Hp2.out)
            have Hgood : Hid (∀ (j : Nat) q, j < k + 1 → ps[j]? = some q → (parseSet q).2 = true) := by
              intro j q hj hq
              rcases Nat.lt_or_ge j k with h | h
              · exact hgood.out j q h hq
              · obtain rfl : j = k := by omega
                rw [Hp2.out] at hq
                cases hq
                exact Hps2.out
            have hsl := setsTo_len ps k
            clear hps2 hgood
            go_wp2_with fail
            refine (parseSetI2 p wr (by omega)).mono ?_
            rw [Hps2.out]
            rintro e w6 ⟨rfl, b6⟩
            have HU6 : Hid (Under7 w2 w6 w2.heap.size n (setsTo ps k) (.slice (some ⟨b, o, none⟩) ps.length cp) ps v) := HU.out.to b6
            have ho := HU6.out.own
            obtain ⟨e6_0, e6_1⟩ := HU6.out.box
            have hlen : (setsTo ps k).length < 17179869184 := by omega
            have hsz := HU6.out.res.lt
            have hsz' : w2.heap.size + 1 ≤ w6.heap.size := by omega
            clear b6 hcell
            go_wp2_with (at_builtin; refine wpList_appAt ho (((parseSet p).1 : Nat) : Int) Try.underlying36 infoI rfl _ _ rfl rfl rfl hlen hsz' ?_; intro v' w7 ho7 hb7 hg7 hat7; obtain ⟨hbx7, hrs7, hU7⟩ := HU6.out.step ho7 hg7 hat7; obtain ⟨_, hf70, hf71⟩ := hrs7; obtain ⟨hc70, hc71⟩ := hbx7; obtain ⟨A7, n7, c7, rfl⟩ := own_shape56 ho7)
            have HU7 : Hid (∃ v, Under7 w2 (w7.setCell ⟨w2.heap.size, 1, none⟩ (.slice A7 n7 c7)) w2.heap.size n (setsTo ps (k + 1)) (.slice (some ⟨b, o, none⟩) ps.length cp) ps v) := ⟨_, by rw [Hsn.out]; exact hU7⟩
            clear hU7
            go_wp2
            go_roundw
            case rel => exact ⟨k + 1, by omega, by go_num, HU7, Hgood⟩
            case measure => simp [intOf]; omega
        · have hk2 : ps.length ≤ k := by omega
          have hxs : setsTo ps k = setsXs r := by rw [setsTo_all hk2, setsXs_ne Hr0.out, Hps.out]
          have hso : setsOk r = true := setsOk_good (by rw [Hps.out]; exact fun j q hq => hgood.out j q (by have := (List.getElem?_eq_some_iff.1 hq).1; omega) hq)
          have Hok2 : Hid (pcxOk l = isCx n (setsXs r)) := by show _ = _; rw [Hok.out, hso]; rfl
          have hlx : (setsXs r).length ≤ 1073741824 := by rw [← hxs]; have := setsTo_len ps k; omega
          rw [hxs] at hU
          have HV := hide hU
          obtain ⟨Av, nv, cv, rfl⟩ := own_shape56 hU.own
          obtain ⟨e6_0, e6_1⟩ := HV.out.box
          clear hU HU hgood hxs hso
          go_wp2_with fail
          refine (isComplexI n _ (setsXs r) wr (own_reads HV.out.own) hlx).mono ?_
          have HAt1 := hide (At2.out.to HV.out.below)
          have HRs1 := hide (Rs2.out.to HV.out.below)
          have HB := hide (nxt B2.out HV.out.below)
          cases hcx : isCx n (setsXs r)
          · have Hno : Hid (pcxOk l = false) := by show _ = _; rw [Hok2.out, hcx]
            clear hcx e6_0 e6_1
            rintro e w7 ⟨rfl, b7⟩
            obtain ⟨e7_0, e7_1⟩ := HAt1.out.to b7
            obtain ⟨_, f0, f1⟩ := HRs1.out.to b7
            have hr := (HRs1.out.to b7).lt
            have B7 := hide (nxt HB.out b7)
            clear b7
            go_wp2
            refine bodyPost_ret (v := .tuple #[.agg #[.int .i64 0, .slice none 0 0], .bool false]) (by simp [results, Try.results30, go_sem, e7_0, e7_1]) rfl ?_
            exact retCB_pno Hno.out (below_store B7.out (Nat.le_refl _) _ _)
          · have Hyes : Hid (pcxOk l = true) := by show _ = _; rw [Hok2.out, hcx]
            clear hcx e6_0 e6_1
            rintro e w7 ⟨rfl, b7⟩
            obtain ⟨e7_0, e7_1⟩ := HV.out.box.to b7
            obtain ⟨⟨q0, q1, h70, h71⟩, f0, f1⟩ := HRs1.out.to b7
            have hr := (HRs1.out.to b7).lt
            have hr2 := (HV.out.res.to b7).lt
            have Hle : Hid (w.heap.size < w2.heap.size) := Rs2.out.lt
            have Hne : Hid (w.heap.size ≠ w2.heap.size) := by have := Hle.out; show _ ≠ _; omega
            have hne2 := Hne.out
            have HO := hide (own_below HV.out.own b7)
            have B7 := hide (nxt HB.out b7)
            clear b7
            go_wp2
            refine bodyPost_ret (v := .tuple #[.agg #[.int .i64 n, .slice Av nv cv], .bool true]) (by simp [results, Try.results30, go_sem, h70, h71]) rfl ?_
            refine retCB_pyes Hyes.out HN.out (by rw [Hr.out]) (own_setNe (own_setNe (own_mono HO.out (by have := Hle.out; omega)) (fun j hj => by have := (own_block HO.out j hj).1; have := Hle.out; omega) _ _) (fun j hj => by have := (own_block HO.out j hj).1; have := Hle.out; omega) _ _) (below_store B7.out (Nat.le_refl _) _ _)
end

/- Walks: the laws' helpers on lists of strings. -/
section
open Go.RowKit

theorem infoS : (Try.prog.info? 9).map (fun i => (i.zero, i.size, i.bytes)) = some (some (.string ⟨#[]⟩), 1, 16) := by kernel_rfl

theorem eqStringS_any (v1 v2 : Value) (xs ys : List (List UInt8)) (w : World) (h1 : StrsAt w w.heap.size v1 xs) (h2 : StrsAt w w.heap.size v2 ys) (hl1 : xs.length ≤ 1073741824) :
    Calls Try.prog 20 #[v1, v2] w fun e w' => RetB w (decide (xs = ys)) e w' := by
  obtain ⟨A1, c1, rfl, hc1, he1⟩ := formS_ h1
  obtain ⟨A2, c2, rfl, hc2, he2⟩ := formS_ h2
  clear h1 h2
  by_cases hl : xs.length = ys.length
  · have hlen := hide hl
    have hbe : ((xs.length : Int) != (ys.length : Int)) = false := by rw [hl]; simp
    have h12 : xs.length ≤ ys.length := by omega
    have h21 : ys.length ≤ xs.length := by omega
    clear hl
    go_enter Try.func20, Try.ntmps20
    go_wp2
    go_loopw [5] (fun i wr => ∃ (k n : Nat), k ≤ xs.length ∧ i = .int .i64 k ∧ Hid (xs.take k = ys.take k) ∧ wr = w.drewN n) (fun i _ => xs.length - (intOf i).toNat)
    case atStart => exact ⟨0, 0, by omega, rfl, by simp [Hid], rfl⟩
    case round =>
      obtain ⟨k, n, hk, rfl, Ht, rfl⟩ := hrel
      by_cases hlt : k < xs.length
      · have hlt2 : k < ys.length := by omega
        obtain ⟨b1, o1, x, rfl, hb1, hx, hcx⟩ := he1 k hlt
        obtain ⟨b2, o2, y, rfl, hb2, hy, hcy⟩ := he2 k hlt2
        have Hx := hide hx
        have Hy := hide hy
        clear hx hy he1 he2
        by_cases hxy : x = y
        · have hne : (x == y) = true := by simp [hxy]
          have Hxy := hide hxy
          clear hxy
          go_wp2
          go_quiet (fail)
          go_wp2
          go_roundw
          case rel => exact ⟨k + 1, _, by omega, by go_num, by rw [take_snoc _ _ _ Hx.out, take_snoc _ _ _ Hy.out, Ht.out, Hxy.out]; rfl, rfl⟩
          case measure => simp [intOf]; omega
        · have hne : (x == y) = false := by simp [hxy]
          have Hxy := hide hxy
          clear hxy
          go_wp2
          go_quiet (fail)
          go_wp2
          go_ret
          refine ⟨ret_bool ?_, below_drewN (below_drewN (Below.refl _ _) _) _⟩
          symm
          apply decide_eq_false
          intro h
          have h1 := Hx.out
          have h2 := Hy.out
          rw [h, h2] at h1
          exact Hxy.out (Option.some.inj h1).symm
      · clear he1 he2
        go_wp2
        go_ret
        refine ⟨ret_bool ?_, below_drewN (Below.refl _ _) _⟩
        symm
        apply decide_eq_true
        have := Ht.out
        rwa [take_all _ _ (by omega), take_all _ _ (by omega)] at this
  · have hlen := hide hl
    have hbe : ((xs.length : Int) != (ys.length : Int)) = true := by simp; omega
    clear hl he1 he2
    go_enter Try.func20, Try.ntmps20
    go_wp2
    go_ret
    refine ⟨ret_bool ?_, Below.refl _ _⟩
    symm
    apply decide_eq_false
    intro h
    exact hlen.out (by rw [h])

theorem digit_step (k : Nat) : UInt8.ofNat ((48 + (k : Int) % 10)).toNat = digit (k % 10) := by
  have e : ((48 + (k : Int) % 10)).toNat = 48 + k % 10 := by omega
  rw [e]
  rfl

theorem digit_add (n : Nat) : (48 : UInt8) + UInt8.ofNat n = digit n := by
  unfold digit
  rw [UInt8.ofNat_add]
  rfl
theorem str_cons (c : UInt8) (r : List UInt8) : ((⟨#[c]⟩ : ByteArray) ++ ⟨r.toArray⟩) = ⟨(c :: r).toArray⟩ := by
  apply ByteArray.ext
  simp
/-- The texts of k, k + 1, .., n of them. -/
def smarks (k : Int) (n : Nat) : List (List UInt8) := (List.range n).map (fun (i : Nat) => markTxt (k + (i : Int)))
theorem smarks_len (k : Int) (n : Nat) : (smarks k n).length = n := by simp [smarks]
theorem smarks_succ (k : Int) (n : Nat) : smarks k (n + 1) = smarks k n ++ [markTxt (k + (n : Int))] := by simp [smarks, List.range_succ]
theorem smarks_get (k : Int) (n i : Nat) (h : i < n) : (smarks k n)[i]? = some (markTxt (k + (i : Int))) := by simp [smarks, h]
theorem smarked_set (k : Int) (xs : List (List UInt8)) (i : Nat) (h : i < xs.length) : (smarks k i ++ xs.drop i).set i (markTxt (k + (i : Int))) = smarks k (i + 1) ++ xs.drop (i + 1) := by
  rw [List.set_append_right _ _ (by rw [smarks_len]; omega), smarks_len, Nat.sub_self, List.drop_eq_getElem_cons h, List.set_cons_zero, smarks_succ]
  simp
theorem smarked_len (k : Int) (xs : List (List UInt8)) (i : Nat) (h : i ≤ xs.length) : (smarks k i ++ xs.drop i).length = xs.length := by
  simp [smarks_len]; omega
end

/- Walks: FormatInt in the reference (from naught on; below naught: to be done). -/
section
open Go.RowKit

theorem dec_len_pow : ∀ (d m : Nat), m < 10 ^ d → (dec m).length ≤ d
  | 0, m, h => by
    obtain rfl : m = 0 := by omega
    rw [dec_zero]
    exact Nat.le_refl _
  | d + 1, m, h => by
    by_cases h0 : 0 < m
    · have ih := dec_len_pow d (m / 10) (by rw [Nat.pow_succ] at h; omega)
      rw [dec_pos h0, List.length_append]
      simp only [List.length_cons, List.length_nil]
      omega
    · obtain rfl : m = 0 := by omega
      rw [dec_zero]
      exact Nat.zero_le _
theorem formatPosS (m : Nat) (w : World) (h0 : 0 < m) (hk : m ≤ 9223372036854775807) : Calls Try.prog 152 #[.int .i64 (m : Int)] w fun e w' => RetS w (dec m) e w' := by
  have hcv := conv1 (P := Try.prog) (src := 31) (dst := 9) Try.underlying31 Try.underlying5 Try.underlying9
  have hne : ((m : Int) == 0) = false := by rw [beq_eq_false_iff_ne]; omega
  go_enter Try.func152, Try.ntmps152
  go_wp2
  go_loopw [0, 4, 5] (fun i t _ wr => ∃ (j : Nat) (r : List UInt8), j ≤ m ∧ i = .int .i64 j ∧ t = .string ⟨r.toArray⟩ ∧ Hid (dec m = dec j ++ r) ∧ Below w.heap.size w wr) (fun i _ _ _ => (intOf i).toNat)
  case atStart => exact ⟨m, [], by omega, rfl, rfl, by simp [Hid], Below.refl _ _⟩
  case round =>
    obtain ⟨j, r, hj, rfl, rfl, hd, hb⟩ := hrel
    by_cases hlt : 0 < j
    · have Hd : Hid (dec m = dec (j / 10) ++ (digit (j % 10) :: r)) := by rw [hd.out, dec_pos hlt]; simp [Hid]
      have hnz : ((j : Int) != 0) = true := by rw [bne_iff_ne]; omega
      have hrl : r.length < 9223372036854775807 := by
        have h1 := congrArg List.length hd.out
        have h2 := dec_len_pow 19 m (by omega)
        rw [dec_pos hlt] at h1
        simp at h1
        omega
      have hdv : j / 10 < j := Nat.div_lt_self (by omega) (by omega)
      have hmn : 0 ≤ (j : Int) % 10 := by omega
      have hml : decide ((j : Int) % 10 < 0) = false := decide_eq_false (by omega)
      go_wp2
      go_roundw
      case rel =>
        refine ⟨j / 10, digit (j % 10) :: r, by omega, by go_num, ?_, Hd, hb.alloc hb.size _⟩
        rw [str_cons, digit_add]
      case measure => simp [intOf]; omega
    · obtain rfl : j = 0 := by omega
      go_wp2
      go_ret
      refine ⟨?_, hb⟩
      rw [hd.out, dec_zero, List.nil_append]
      rfl

theorem formatNegS (m : Nat) (w : World) (h0 : 0 < m) (hk : m ≤ 9223372036854775808) : Calls Try.prog 152 #[.int .i64 (-(m : Int))] w fun e w' => RetS w (45 :: dec m) e w' := by
  have hcv := conv1 (P := Try.prog) (src := 31) (dst := 9) Try.underlying31 Try.underlying5 Try.underlying9
  have hne : ((-(m : Int)) == 0) = false := by rw [beq_eq_false_iff_ne]; omega
  have hlt0 : decide (-(m : Int) < 0) = true := decide_eq_true (by omega)
  go_enter Try.func152, Try.ntmps152
  go_wp2
  go_loopw [0, 4, 5] (fun i t _ wr => ∃ (j : Nat) (r : List UInt8), j ≤ m ∧ i = .int .i64 (-(j : Int)) ∧ t = .string ⟨r.toArray⟩ ∧ Hid (dec m = dec j ++ r) ∧ Below w.heap.size w wr) (fun i _ _ _ => (intOf i).natAbs)
  case atStart => exact ⟨m, [], by omega, rfl, rfl, by simp [Hid], Below.refl _ _⟩
  case round =>
    obtain ⟨j, r, hj, rfl, rfl, hd, hb⟩ := hrel
    by_cases hlt : 0 < j
    · have Hd : Hid (dec m = dec (j / 10) ++ (digit (j % 10) :: r)) := by rw [hd.out, dec_pos hlt]; simp [Hid]
      have hnz : ((-(j : Int)) != 0) = true := by rw [bne_iff_ne]; omega
      have hrl : r.length < 9223372036854775807 := by
        have h1 := congrArg List.length hd.out
        have h2 := dec_len_pow 19 m (by omega)
        rw [dec_pos hlt] at h1
        simp at h1
        omega
      have hdv : j / 10 < j := Nat.div_lt_self (by omega) (by omega)
      have htm : (-(j : Int)).tmod 10 = -((j % 10 : Nat) : Int) := by rw [Int.neg_tmod]; rfl
      have htd : (-(j : Int)).tdiv 10 = -((j / 10 : Nat) : Int) := by rw [Int.neg_tdiv]; rfl
      by_cases hd0 : j % 10 = 0
      · have hml : decide (-((j % 10 : Nat) : Int) < 0) = false := decide_eq_false (by omega)
        go_wp2
        go_roundw
        case rel =>
          refine ⟨j / 10, digit (j % 10) :: r, by omega, by go_num, ?_, Hd, hb.alloc hb.size _⟩
          rw [str_cons, hd0]
          rfl
        case measure => simp [intOf]; omega
      · have hml : decide (-((j % 10 : Nat) : Int) < 0) = true := decide_eq_true (by omega)
        go_wp2
        go_roundw
        case rel =>
          refine ⟨j / 10, digit (j % 10) :: r, by omega, by go_num, ?_, Hd, hb.alloc hb.size _⟩
          rw [str_cons, digit_add]
        case measure => simp [intOf]; omega
    · obtain rfl : j = 0 := by omega
      have hrl : r.length ≤ 9223372036854775806 := by
        have h1 := congrArg List.length hd.out
        have h2 := dec_len_pow 19 m (by omega)
        rw [dec_zero, List.nil_append] at h1
        omega
      go_wp2
      go_ret
      refine ⟨?_, hb⟩
      rw [hd.out, dec_zero, List.nil_append, ← str_cons]
      rfl

theorem formatIntS (n : Int) (w : World) (hk : -9223372036854775808 ≤ n ∧ n ≤ 9223372036854775807) : Calls Try.prog 152 #[.int .i64 n] w fun e w' => RetS w (fmtZ n) e w' := by
  rcases Int.lt_trichotomy n 0 with h | h | h
  · obtain ⟨m, rfl⟩ : ∃ m : Nat, n = -(m : Int) := ⟨n.natAbs, by omega⟩
    have e : fmtZ (-(m : Int)) = 45 :: dec m := by
      unfold fmtZ
      rw [if_neg (by omega), if_pos h, show (-(m : Int)).natAbs = m by omega]
    rw [e]
    exact formatNegS m w (by omega) (by omega)
  · subst h
    go_enter Try.func152, Try.ntmps152
    go_wp2
    go_ret
    exact ⟨rfl, Below.refl _ _⟩
  · obtain ⟨m, rfl⟩ := Int.eq_ofNat_of_zero_le (by omega : 0 ≤ n)
    have e : fmtZ (m : Int) = dec m := by
      unfold fmtZ
      rw [if_neg (by omega), if_neg (by omega), Int.natAbs_natCast]
    rw [e]
    exact formatPosS m w (by omega) (by omega)
end

/- Walks: l1Read, ParseNumber, ParseInt in the reference. -/
section
open Go.RowKit

theorem fmtZ_nat (v : Nat) : fmtZ (v : Int) = fmtN v := by
  unfold fmtZ fmtN
  by_cases h : v = 0
  · rw [if_pos h, if_pos (by omega)]
  · rw [if_neg h, if_neg (by omega), if_neg (by omega), Int.natAbs_natCast]
theorem l1ReadS_pos (l : List UInt8) (most : Nat) (hm : most ≤ 12) (w : World) (hl : l.length ≤ 9223372036854775807) (h : ∀ t, l ≠ 45 :: t) :
    Calls Try.prog 101 #[.string ⟨l.toArray⟩, .int .i64 (most : Int)] w fun e w' => RetNB w (pdVal most l) (pdOk most l) e w' := by
  by_cases hlen : 1 ≤ l.length ∧ l.length ≤ most
  · have Hlen := hide hlen
    obtain ⟨h1, h2⟩ := hlen
    obtain ⟨c0, hc0⟩ : ∃ c, l[0]? = some c := ⟨_, List.getElem?_eq_getElem (by omega)⟩
    obtain ⟨hk0, hg0⟩ := bget l 0 c0 hc0
    have hc45 : ((c0.toNat : Int) == 45) = false := by
      rw [beq_eq_false_iff_ne]
      intro e
      have h5 : c0.toNat = 45 := by omega
      have h6 : UInt8.ofNat c0.toNat = UInt8.ofNat 45 := by rw [h5]
      cases l with
      | nil => simp at h1
      | cons c t =>
        have : c = c0 := by simpa using hc0
        subst this
        exact h t (by rw [show c = 45 by simpa using h6])
    clear hc0 h
    go_enter Try.func101, Try.ntmps101
    go_wp2
    go_loop [8, 9] (fun a i => ∃ k : Nat, k ≤ l.length ∧ i = .int .i64 k ∧ Hid ((l.take k).all isDig = true) ∧ a = .int .i64 (valOf (l.take k) : Int)) (fun _ i => l.length - (intOf i).toNat)
    case atStart => exact ⟨0, by omega, rfl, rfl, rfl⟩
    case round =>
      obtain ⟨k, hk, rfl, hdig, rfl⟩ := hrel
      by_cases hlt : k < l.length
      · obtain ⟨c, hc⟩ : ∃ c, l[k]? = some c := ⟨_, List.getElem?_eq_getElem hlt⟩
        have Hts := hide (take_snoc l k c hc)
        have Hmem := hide (List.mem_of_getElem? hc)
        obtain ⟨hk1, hgl⟩ := bget l k c hc
        have hsm := val_small hdig.out (show (l.take k).length ≤ 12 by rw [List.length_take]; omega) (Nat.le_refl _)
        have Hdig := hdig
        clear hc hdig
        by_cases c1 : 48 ≤ c.toNat
        · by_cases c2 : c.toNat ≤ 57
          · have hd : isDig c = true := decide_eq_true ⟨c1, c2⟩
            have Hn : Hid ((l.take (k + 1)).all isDig = true) := by show _ = _; rw [Hts.out, List.all_append, Hdig.out]; simp [hd]
            have Hv : Hid ((valOf (l.take (k + 1)) : Int) = 10 * (valOf (l.take k) : Int) + ((c.toNat : Int) - 48)) := by show _ = _; rw [Hts.out, valOf_snoc]; omega
            clear hd
            go_wp2
            go_round
            case rel => exact ⟨_, _, _, _, ⟨k + 1, by omega, by go_num, List.all_eq_true.1 Hn.out, rfl⟩, rfl, rfl, by rw [Hv.out], by go_num⟩
            case measure => simp [intOf]; omega
          · have H := hide (pd_bad (most := most) Hmem.out (decide_eq_false (by omega) : isDig c = false))
            have c3 : 57 < c.toNat := by omega
            clear c2
            go_wp2
            go_ret2
            rw [pdVal_no H.out, H.out]
            exact ⟨rfl, Below.refl _ _⟩
        · have H := hide (pd_bad (most := most) Hmem.out (decide_eq_false (by omega) : isDig c = false))
          have c3 : c.toNat < 48 := by omega
          clear c1
          go_wp2
          go_ret2
          rw [pdVal_no H.out, H.out]
          exact ⟨rfl, Below.refl _ _⟩
      · have hk2 : l.length ≤ k := by omega
        have Ht := hide (take_all l k hk2)
        have Hd : Hid (l.all isDig = true) := by show _ = _; rw [← Ht.out]; exact hdig.out
        have hsm := val_small Hd.out (show l.length ≤ 12 by omega) (Nat.le_refl _)
        clear hdig
        go_wp2_with fail
        rw [Ht.out]
        refine (formatIntS (valOf l : Int) w (by omega)).mono ?_
        rintro e w2 ⟨rfl, b2⟩
        have B2 := hide b2
        have hz : fmtZ ((valOf l : Nat) : Int) = fmtN (valOf l) := fmtZ_nat _
        cases hpl : plainL l
        · have H := hide (pd_plain (most := most) hpl)
          have hne : fmtZ ((valOf l : Nat) : Int) ≠ l := by
            rw [hz]
            intro e
            have := (fmtN_valOf Hd.out (by omega)).1 e
            rw [hpl] at this
            cases this
          have hbe : (fmtZ ((valOf l : Nat) : Int) == l) = false := by simpa using hne
          clear hpl b2 hz
          go_wp2
          go_ret2
          rw [pdVal_no H.out, H.out]
          exact ⟨rfl, B2.out⟩
        · have H : Hid (pdOk most l = true) := pd_mk Hlen.out hpl Hd.out
          have heq : fmtZ ((valOf l : Nat) : Int) = l := by rw [hz]; exact (fmtN_valOf Hd.out (by omega)).2 hpl
          have hbe : (fmtZ ((valOf l : Nat) : Int) == l) = true := by simpa using heq
          clear hpl b2 hz heq
          go_wp2
          go_ret2
          rw [pdVal_yes H.out, H.out]
          exact ⟨rfl, B2.out⟩
  · have H := hide (pd_len hlen)
    cases l with
    | nil =>
      clear hlen h
      go_enter Try.func101, Try.ntmps101
      go_wp2
      go_ret2
      rw [pdVal_no H.out, H.out]
      exact ⟨rfl, Below.refl _ _⟩
    | cons c t =>
      have hlt : (c :: t : List UInt8).length = t.length + 1 := rfl
      have h3 : most < t.length + 1 := by omega
      obtain ⟨hk0, hg0⟩ := bget (c :: t) 0 c rfl
      have hc : ((c.toNat : Int) == 45) = false := by
        rw [beq_eq_false_iff_ne]
        intro e
        have h5 : c.toNat = 45 := by omega
        have : UInt8.ofNat c.toNat = UInt8.ofNat 45 := by rw [h5]
        exact h t (by rw [show c = 45 by simpa using this])
      clear hlen h
      go_enter Try.func101, Try.ntmps101
      go_wp2
      go_ret2
      rw [pdVal_no H.out, H.out]
      exact ⟨rfl, Below.refl _ _⟩

/-- With '-': not naught. -/
def ngOk (most : Nat) (t : List UInt8) : Bool := pdOk most t && decide (valOf t ≠ 0)
def ngVal (most : Nat) (t : List UInt8) : Int := if ngOk most t then -(valOf t : Int) else 0
theorem ng_pd {most : Nat} {t : List UInt8} (h : pdOk most t = false) : ngOk most t = false := by unfold ngOk; rw [h]; rfl
theorem ngVal_no {most : Nat} {t : List UInt8} (h : ngOk most t = false) : ngVal most t = 0 := by simp [ngVal, h]
theorem ngVal_yes {most : Nat} {t : List UInt8} (h : ngOk most t = true) : ngVal most t = -(valOf t : Int) := by simp [ngVal, h]
theorem fmtZ_neg {t : List UInt8} (h : t.all isDig = true) (h0 : 0 < t.length) : fmtZ (-(valOf t : Int)) = 45 :: t ↔ (plainL t = true ∧ valOf t ≠ 0) := by
  by_cases hv : valOf t = 0
  · rw [hv]
    constructor
    · intro e
      exfalso
      have : fmtZ (-((0 : Nat) : Int)) = [48] := rfl
      rw [this] at e
      have := (List.cons.inj e).1
      cases this
    · rintro ⟨_, h⟩
      exact absurd rfl h
  · have e : fmtZ (-(valOf t : Int)) = 45 :: dec (valOf t) := by
      unfold fmtZ
      rw [if_neg (by omega), if_pos (by omega), show (-(valOf t : Int)).natAbs = valOf t by omega]
    rw [e, ← fmtN_valOf h h0]
    unfold fmtN
    rw [if_neg hv]
    constructor
    · intro h1
      exact ⟨(List.cons.inj h1).2, hv⟩
    · rintro ⟨h1, _⟩
      rw [h1]
theorem l1ReadS_neg (t : List UInt8) (most : Nat) (hm : most ≤ 12) (w : World) (hl : t.length + 1 ≤ 9223372036854775807) :
    Calls Try.prog 101 #[.string ⟨(45 :: t).toArray⟩, .int .i64 (most : Int)] w fun e w' => RetNB w (ngVal most t) (ngOk most t) e w' := by
  have hlen0 : (45 :: t : List UInt8).length = t.length + 1 := rfl
  obtain ⟨hk0, hg0⟩ := bget (45 :: t) 0 45 rfl
  have hx : (⟨(45 :: t).toArray⟩ : ByteArray).extract 1 (t.length + 1) = ⟨t.toArray⟩ := by
    rw [cut_eq33]
    simp
  by_cases hlen : 1 ≤ t.length ∧ t.length ≤ most
  · have Hlen := hide hlen
    obtain ⟨h1, h2⟩ := hlen
    go_enter Try.func101, Try.ntmps101
    go_wp2
    go_loop [8, 9] (fun a i => ∃ k : Nat, k ≤ t.length ∧ i = .int .i64 k ∧ Hid ((t.take k).all isDig = true) ∧ a = .int .i64 (valOf (t.take k) : Int)) (fun _ i => t.length - (intOf i).toNat)
    case atStart => exact ⟨0, by omega, rfl, rfl, rfl⟩
    case round =>
      obtain ⟨k, hk, rfl, hdig, rfl⟩ := hrel
      by_cases hlt : k < t.length
      · obtain ⟨c, hc⟩ : ∃ c, t[k]? = some c := ⟨_, List.getElem?_eq_getElem hlt⟩
        have Hts := hide (take_snoc t k c hc)
        have Hmem := hide (List.mem_of_getElem? hc)
        obtain ⟨hk1, hgl⟩ := bget t k c hc
        have hsm := val_small hdig.out (show (t.take k).length ≤ 12 by rw [List.length_take]; omega) (Nat.le_refl _)
        have Hdig := hdig
        clear hc hdig
        by_cases c1 : 48 ≤ c.toNat
        · by_cases c2 : c.toNat ≤ 57
          · have hd : isDig c = true := decide_eq_true ⟨c1, c2⟩
            have Hn : Hid ((t.take (k + 1)).all isDig = true) := by show _ = _; rw [Hts.out, List.all_append, Hdig.out]; simp [hd]
            have Hv : Hid ((valOf (t.take (k + 1)) : Int) = 10 * (valOf (t.take k) : Int) + ((c.toNat : Int) - 48)) := by show _ = _; rw [Hts.out, valOf_snoc]; omega
            clear hd
            go_wp2
            go_round
            case rel => exact ⟨_, _, _, _, ⟨k + 1, by omega, by go_num, List.all_eq_true.1 Hn.out, rfl⟩, rfl, rfl, by rw [Hv.out], by go_num⟩
            case measure => simp [intOf]; omega
          · have H := hide (ng_pd (pd_bad (most := most) Hmem.out (decide_eq_false (by omega) : isDig c = false)))
            have c3 : 57 < c.toNat := by omega
            clear c2
            go_wp2
            go_ret2
            rw [ngVal_no H.out, H.out]
            exact ⟨rfl, Below.refl _ _⟩
        · have H := hide (ng_pd (pd_bad (most := most) Hmem.out (decide_eq_false (by omega) : isDig c = false)))
          have c3 : c.toNat < 48 := by omega
          clear c1
          go_wp2
          go_ret2
          rw [ngVal_no H.out, H.out]
          exact ⟨rfl, Below.refl _ _⟩
      · have hk2 : t.length ≤ k := by omega
        have Ht := hide (take_all t k hk2)
        have Hd : Hid (t.all isDig = true) := by show _ = _; rw [← Ht.out]; exact hdig.out
        have hsm := val_small Hd.out (show t.length ≤ 12 by omega) (Nat.le_refl _)
        clear hdig
        have hsm2 := hsm
        go_wp2_with fail
        rw [Ht.out]
        rw [IntWalk.wrap64_in (-(valOf t : Int)) (by omega)]
        refine (formatIntS (-(valOf t : Int)) w (by omega)).mono ?_
        rintro e w2 ⟨rfl, b2⟩
        have B2 := hide b2
        have hiff := fmtZ_neg Hd.out (by omega : 0 < t.length)
        by_cases hpl : plainL t = true ∧ valOf t ≠ 0
        · have H : Hid (ngOk most t = true) := by show _ = _; unfold ngOk; rw [pd_mk Hlen.out hpl.1 Hd.out, decide_eq_true hpl.2]; rfl
          have hbe : (fmtZ (-(valOf t : Int)) == 45 :: t) = true := by simpa using hiff.2 hpl
          clear hpl b2 hiff
          go_wp2
          go_ret2
          rw [ngVal_yes H.out, H.out]
          exact ⟨rfl, B2.out⟩
        · have H : Hid (ngOk most t = false) := by
            show _ = _
            unfold ngOk
            by_cases hv : valOf t = 0
            · rw [decide_eq_false (by simpa using hv)]; simp
            · have hp : plainL t = false := by
                cases hh : plainL t
                · rfl
                · exact absurd ⟨hh, hv⟩ hpl
              rw [pd_plain hp]; rfl
          have hbe : (fmtZ (-(valOf t : Int)) == 45 :: t) = false := by
            have : fmtZ (-(valOf t : Int)) ≠ 45 :: t := fun e => hpl (hiff.1 e)
            simpa using this
          clear hpl b2 hiff
          go_wp2
          go_ret2
          rw [ngVal_no H.out, H.out]
          exact ⟨rfl, B2.out⟩
  · have H := hide (ng_pd (pd_len hlen))
    rcases Nat.lt_or_ge t.length 1 with h | h
    · have h0 : t.length = 0 := by omega
      clear hlen h
      go_enter Try.func101, Try.ntmps101
      go_wp2
      go_ret2
      rw [ngVal_no H.out, H.out]
      exact ⟨rfl, Below.refl _ _⟩
    · have h3 : most < t.length := by omega
      clear hlen
      go_enter Try.func101, Try.ntmps101
      go_wp2
      go_ret2
      rw [ngVal_no H.out, H.out]
      exact ⟨rfl, Below.refl _ _⟩
end

/- Walks: ParseNumber, ParseInt in the program. -/
section
open Go.RowKit

theorem parseNumberI (l : List UInt8) (w : World) (hl : l.length ≤ 9223372036854775807) :
    Calls Try.prog 13 #[.string ⟨l.toArray⟩] w fun e w' => e = .returned (.tuple #[.int .i64 (pdVal 6 l), .bool (pdOk 6 l)]) ∧ w = w' := by
  have hp := plainDigitsI l 6 (by omega) w hl
  cases hok : pdOk 6 l
  · have Hv := hide (pdVal_no hok)
    rw [hok] at hp
    have Hp := hide hp
    clear hok hp
    go_enter Try.func13, Try.ntmps13
    go_wp2_with fail
    refine Calls.mono Hp.out ?_
    rintro e w' ⟨rfl, rfl⟩
    go_wp2
    go_ret2
    rw [Hv.out]
    exact ⟨rfl, rfl⟩
  · rw [hok] at hp
    have Hp := hide hp
    clear hok hp
    go_enter Try.func13, Try.ntmps13
    go_wp2_with fail
    refine Calls.mono Hp.out ?_
    rintro e w' ⟨rfl, rfl⟩
    go_wp2
    go_ret2
    exact ⟨rfl, rfl⟩
end

/- Walks: ParseNumber and ParseInt in the reference; both of both. -/
section
open Go.RowKit

theorem starts45 (l : List UInt8) : (∃ t, l = 45 :: t) ∨ (∀ t, l ≠ 45 :: t) := by
  cases l with
  | nil => exact .inr (fun t h => by cases h)
  | cons c t =>
    by_cases h : c = 45
    · exact .inl ⟨t, by rw [h]⟩
    · exact .inr (fun t h2 => h (List.cons.inj h2).1)
theorem pd_dash (most : Nat) (t : List UInt8) : pdOk most (45 :: t) = false := pd_bad (most := most) (c := 45) (by simp) (by decide)
theorem ng_bound {most : Nat} (hm : most ≤ 12) {t : List UInt8} (h : ngOk most t = true) : valOf t ≠ 0 ∧ valOf t < 1000000000000 := by
  unfold ngOk pdOk at h
  rw [Bool.and_eq_true, Bool.and_eq_true, Bool.and_eq_true] at h
  have h1 := of_decide_eq_true h.1.1.1
  exact ⟨of_decide_eq_true h.2, val_small h.1.2 (by omega) (Nat.le_refl _)⟩
theorem pd_bound {most : Nat} (hm : most ≤ 12) {t : List UInt8} (h : pdOk most t = true) : valOf t < 1000000000000 := by
  unfold pdOk at h
  rw [Bool.and_eq_true, Bool.and_eq_true] at h
  have h1 := of_decide_eq_true h.1.1
  exact val_small h.2 (by omega) (Nat.le_refl _)
theorem pi_pos {l : List UInt8} (h : ∀ t, l ≠ 45 :: t) : piOk l = pdOk 12 l ∧ piVal l = pdVal 12 l := by
  cases l with
  | nil => exact ⟨rfl, rfl⟩
  | cons c t =>
    have hc : c ≠ 45 := fun e => h t (by rw [e])
    constructor
    · unfold piOk
      split
      · rename_i e
        exact absurd (List.cons.inj e).1 hc
      · rfl
    · unfold piVal
      split
      · rename_i e
        exact absurd (List.cons.inj e).1 hc
      · rfl

theorem parseNumberS (l : List UInt8) (w : World) (hl : l.length ≤ 9223372036854775807) :
    Calls Try.prog 12 #[.string ⟨l.toArray⟩] w fun e w' => RetNB w (pdVal 6 l) (pdOk 6 l) e w' := by
  rcases starts45 l with ⟨t, rfl⟩ | h
  · have Hb := hide (pd_dash 6 t)
    have hp := l1ReadS_neg t 6 (by omega) w hl
    cases hok : ngOk 6 t
    · rw [hok, ngVal_no hok] at hp
      have Hp := hide hp
      clear hok hp
      go_enter Try.func12, Try.ntmps12
      go_wp2_with fail
      refine Calls.mono Hp.out ?_
      rintro e w' ⟨rfl, b1⟩
      have B1 := hide b1
      clear b1
      go_wp2
      go_ret2
      rw [pdVal_no Hb.out, Hb.out]
      exact ⟨rfl, B1.out⟩
    · rw [hok, ngVal_yes hok] at hp
      obtain ⟨hv, hv2⟩ := ng_bound (by omega) hok
      have hv3 : (0 : Int) < (valOf t : Int) := by omega
      have Hp := hide hp
      clear hok hp
      go_enter Try.func12, Try.ntmps12
      go_wp2_with fail
      refine Calls.mono Hp.out ?_
      rintro e w' ⟨rfl, b1⟩
      have B1 := hide b1
      clear b1
      go_wp2
      go_ret2
      rw [pdVal_no Hb.out, Hb.out]
      exact ⟨rfl, B1.out⟩
  · have hp := l1ReadS_pos l 6 (by omega) w hl h
    cases hok : pdOk 6 l
    · have Hb := hide hok
      rw [hok, pdVal_no hok] at hp
      have Hp := hide hp
      clear hok hp h
      go_enter Try.func12, Try.ntmps12
      go_wp2_with fail
      refine Calls.mono Hp.out ?_
      rintro e w' ⟨rfl, b1⟩
      have B1 := hide b1
      clear b1
      go_wp2
      go_ret2
      rw [pdVal_no Hb.out]
      exact ⟨rfl, B1.out⟩
    · have Hb := hide hok
      rw [hok, pdVal_yes hok] at hp
      have hv2 := pd_bound (by omega) hok
      have Hp := hide hp
      clear hok hp h
      go_enter Try.func12, Try.ntmps12
      go_wp2_with fail
      refine Calls.mono Hp.out ?_
      rintro e w' ⟨rfl, b1⟩
      have B1 := hide b1
      clear b1
      go_wp2
      go_ret2
      rw [pdVal_yes Hb.out]
      exact ⟨rfl, B1.out⟩

theorem parseIntS (l : List UInt8) (w : World) (hl : l.length ≤ 9223372036854775807) :
    Calls Try.prog 14 #[.string ⟨l.toArray⟩] w fun e w' => RetNB w (piVal l) (piOk l) e w' := by
  have hp : Calls Try.prog 101 #[.string ⟨l.toArray⟩, .int .i64 ((12 : Nat) : Int)] w fun e w' => RetNB w (piVal l) (piOk l) e w' := by
    rcases starts45 l with ⟨t, rfl⟩ | h
    · exact l1ReadS_neg t 12 (by omega) w hl
    · have hh := l1ReadS_pos l 12 (by omega) w hl h
      rw [(pi_pos h).1, (pi_pos h).2]
      exact hh
  have Hp := hide hp
  clear hp
  go_enter Try.func14, Try.ntmps14
  go_wp2_with fail
  refine Calls.mono Hp.out ?_
  rintro e w' ⟨rfl, b1⟩
  have B1 := hide b1
  clear b1
  go_wp2
  go_ret2
  exact ⟨rfl, B1.out⟩

theorem parseNumberI2 (l : List UInt8) (w : World) (hl : l.length ≤ 9223372036854775807) :
    Calls Try.prog 13 #[.string ⟨l.toArray⟩] w fun e w' => RetNB w (pdVal 6 l) (pdOk 6 l) e w' :=
  (parseNumberI l w hl).mono fun _ _ ⟨h1, h2⟩ => ⟨h1, h2 ▸ Below.refl _ _⟩
theorem parseIntI2 (l : List UInt8) (w : World) (hl : l.length ≤ 9223372036854775807) :
    Calls Try.prog 15 #[.string ⟨l.toArray⟩] w fun e w' => RetNB w (piVal l) (piOk l) e w' := by
  rcases starts45 l with ⟨t, rfl⟩ | h
  · exact (parseIntI_neg t w hl).mono fun _ _ ⟨h1, h2⟩ => ⟨h1, h2 ▸ Below.refl _ _⟩
  · rw [(pi_pos h).1, (pi_pos h).2]
    exact (parseIntI_pos l w hl h).mono fun _ _ ⟨h1, h2⟩ => ⟨h1, h2 ▸ Below.refl _ _⟩
end
end Go.Proofs.Ytmkacjpjcfffmaa
