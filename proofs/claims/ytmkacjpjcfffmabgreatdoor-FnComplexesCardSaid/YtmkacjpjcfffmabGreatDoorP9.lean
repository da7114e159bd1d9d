/- Texts of one kind, laid together (5 of them). -/
import Derived.Test.YtmkacjpjcfffmabGreatDoorP3
import Derived.Test.YtmkacjpjcfffmabGreatDoorP4
import Derived.Test.YtmkacjpjcfffmabGreatDoorP5
import Derived.Test.YtmkacjpjcfffmabGreatDoorP6
import Derived.Test.YtmkacjpjcfffmabGreatDoorP8
namespace Go.Proofs.YtmkacjpjcfffmabGreatDoor
/- Walks: l1Read, ParseNumber, ParseInt in the reference. -/
section
open Go.RowKit

theorem fmtZ_nat (v : Nat) : fmtZ (v : Int) = fmtN v := by
  unfold fmtZ fmtN
  by_cases h : v = 0
  · rw [if_pos h, if_pos (by omega)]
  · rw [if_neg h, if_neg (by omega), if_neg (by omega), Int.natAbs_natCast]
theorem l1ReadS_pos (l : List UInt8) (most : Nat) (hm : most ≤ 12) (w : World) (hl : l.length ≤ 9223372036854775807) (h : ∀ t, l ≠ 45 :: t) :
    Calls Tryz.prog 71 #[.string ⟨l.toArray⟩, .int .i64 (most : Int)] w fun e w' => RetNB w (pdVal most l) (pdOk most l) e w' := by
  by_cases hlen : 1 ≤ l.length ∧ l.length ≤ most
  · have Hlen := hide hlen
    obtain ⟨h1, h2⟩ := hlen
    obtain ⟨c0, hc0⟩ : ∃ c, l[0]? = some c := ⟨_, List.getElem?_eq_getElem (by omega)⟩
    obtain ⟨hk0, hg0⟩ := bget l 0 c0 hc0
    have hc45 : ((c0.toNat : Int) == 45) = false := by
      rw [beq_eq_false_iff_ne]
      intro e
      have h5 : c0.toNat = 45 := by omega
      have h6 : UInt8.ofNat c0.toNat = UInt8.ofNat 45 := by rw [h5]
      cases l with
      | nil => simp at h1
      | cons c t =>
        have : c = c0 := by simpa using hc0
        subst this
        exact h t (by rw [show c = 45 by simpa using h6])
    clear hc0 h
    go_enter Tryz.func71, Tryz.ntmps71
    go_wp2
    go_loop [8, 9] (fun a i => ∃ k : Nat, k ≤ l.length ∧ i = .int .i64 k ∧ Hid ((l.take k).all isDig = true) ∧ a = .int .i64 (valOf (l.take k) : Int)) (fun _ i => l.length - (intOf i).toNat)
    case atStart => exact ⟨0, by omega, rfl, rfl, rfl⟩
    case round =>
      obtain ⟨k, hk, rfl, hdig, rfl⟩ := hrel
      by_cases hlt : k < l.length
      · obtain ⟨c, hc⟩ : ∃ c, l[k]? = some c := ⟨_, List.getElem?_eq_getElem hlt⟩
        have Hts := hide (take_snoc l k c hc)
        have Hmem := hide (List.mem_of_getElem? hc)
        obtain ⟨hk1, hgl⟩ := bget l k c hc
        have hsm := val_small hdig.out (show (l.take k).length ≤ 12 by rw [List.length_take]; omega) (Nat.le_refl _)
        have Hdig := hdig
        clear hc hdig
        by_cases c1 : 48 ≤ c.toNat
        · by_cases c2 : c.toNat ≤ 57
          · have hd : isDig c = true := decide_eq_true ⟨c1, c2⟩
            have Hn : Hid ((l.take (k + 1)).all isDig = true) := by show _ = _; rw [Hts.out, List.all_append, Hdig.out]; simp [hd]
            have Hv : Hid ((valOf (l.take (k + 1)) : Int) = 10 * (valOf (l.take k) : Int) + ((c.toNat : Int) - 48)) := by show _ = _; rw [Hts.out, valOf_snoc]; omega
            clear hd
            go_wp2
            go_round
            case rel => exact ⟨_, _, _, _, ⟨k + 1, by omega, by go_num, List.all_eq_true.1 Hn.out, rfl⟩, rfl, rfl, by rw [Hv.out], by go_num⟩
            case measure => simp [intOf]; omega
          · have H := hide (pd_bad (most := most) Hmem.out (decide_eq_false (by omega) : isDig c = false))
            have c3 : 57 < c.toNat := by omega
            clear c2
            go_wp2
            go_ret2
            rw [pdVal_no H.out, H.out]
            exact ⟨rfl, Below.refl _ _⟩
        · have H := hide (pd_bad (most := most) Hmem.out (decide_eq_false (by omega) : isDig c = false))
          have c3 : c.toNat < 48 := by omega
          clear c1
          go_wp2
          go_ret2
          rw [pdVal_no H.out, H.out]
          exact ⟨rfl, Below.refl _ _⟩
      · have hk2 : l.length ≤ k := by omega
        have Ht := hide (take_all l k hk2)
        have Hd : Hid (l.all isDig = true) := by show _ = _; rw [← Ht.out]; exact hdig.out
        have hsm := val_small Hd.out (show l.length ≤ 12 by omega) (Nat.le_refl _)
        clear hdig
        go_wp2_with fail
        rw [Ht.out]
        refine (formatIntS (valOf l : Int) w (by omega)).mono ?_
        rintro e w2 ⟨rfl, b2⟩
        have B2 := hide b2
        have hz : fmtZ ((valOf l : Nat) : Int) = fmtN (valOf l) := fmtZ_nat _
        cases hpl : plainL l
        · have H := hide (pd_plain (most := most) hpl)
          have hne : fmtZ ((valOf l : Nat) : Int) ≠ l := by
            rw [hz]
            intro e
            have := (fmtN_valOf Hd.out (by omega)).1 e
            rw [hpl] at this
            cases this
          have hbe : (fmtZ ((valOf l : Nat) : Int) == l) = false := by simpa using hne
          clear hpl b2 hz
          go_wp2
          go_ret2
          rw [pdVal_no H.out, H.out]
          exact ⟨rfl, B2.out⟩
        · have H : Hid (pdOk most l = true) := pd_mk Hlen.out hpl Hd.out
          have heq : fmtZ ((valOf l : Nat) : Int) = l := by rw [hz]; exact (fmtN_valOf Hd.out (by omega)).2 hpl
          have hbe : (fmtZ ((valOf l : Nat) : Int) == l) = true := by simpa using heq
          clear hpl b2 hz heq
          go_wp2
          go_ret2
          rw [pdVal_yes H.out, H.out]
          exact ⟨rfl, B2.out⟩
  · have H := hide (pd_len hlen)
    cases l with
    | nil =>
      clear hlen h
      go_enter Tryz.func71, Tryz.ntmps71
      go_wp2
      go_ret2
      rw [pdVal_no H.out, H.out]
      exact ⟨rfl, Below.refl _ _⟩
    | cons c t =>
      have hlt : (c :: t : List UInt8).length = t.length + 1 := rfl
      have h3 : most < t.length + 1 := by omega
      obtain ⟨hk0, hg0⟩ := bget (c :: t) 0 c rfl
      have hc : ((c.toNat : Int) == 45) = false := by
        rw [beq_eq_false_iff_ne]
        intro e
        have h5 : c.toNat = 45 := by omega
        have : UInt8.ofNat c.toNat = UInt8.ofNat 45 := by rw [h5]
        exact h t (by rw [show c = 45 by simpa using this])
      clear hlen h
      go_enter Tryz.func71, Tryz.ntmps71
      go_wp2
      go_ret2
      rw [pdVal_no H.out, H.out]
      exact ⟨rfl, Below.refl _ _⟩

/-- With '-': not naught. -/
def ngOk (most : Nat) (t : List UInt8) : Bool := pdOk most t && decide (valOf t ≠ 0)
def ngVal (most : Nat) (t : List UInt8) : Int := if ngOk most t then -(valOf t : Int) else 0
theorem ng_pd {most : Nat} {t : List UInt8} (h : pdOk most t = false) : ngOk most t = false := by unfold ngOk; rw [h]; rfl
theorem ngVal_no {most : Nat} {t : List UInt8} (h : ngOk most t = false) : ngVal most t = 0 := by simp [ngVal, h]
theorem ngVal_yes {most : Nat} {t : List UInt8} (h : ngOk most t = true) : ngVal most t = -(valOf t : Int) := by simp [ngVal, h]
theorem fmtZ_neg {t : List UInt8} (h : t.all isDig = true) (h0 : 0 < t.length) : fmtZ (-(valOf t : Int)) = 45 :: t ↔ (plainL t = true ∧ valOf t ≠ 0) := by
  by_cases hv : valOf t = 0
  · rw [hv]
    constructor
    · intro e
      exfalso
      have : fmtZ (-((0 : Nat) : Int)) = [48] := rfl
      rw [this] at e
      have := (List.cons.inj e).1
      cases this
    · rintro ⟨_, h⟩
      exact absurd rfl h
  · have e : fmtZ (-(valOf t : Int)) = 45 :: dec (valOf t) := by
      unfold fmtZ
      rw [if_neg (by omega), if_pos (by omega), show (-(valOf t : Int)).natAbs = valOf t by omega]
    rw [e, ← fmtN_valOf h h0]
    unfold fmtN
    rw [if_neg hv]
    constructor
    · intro h1
      exact ⟨(List.cons.inj h1).2, hv⟩
    · rintro ⟨h1, _⟩
      rw [h1]
theorem l1ReadS_neg (t : List UInt8) (most : Nat) (hm : most ≤ 12) (w : World) (hl : t.length + 1 ≤ 9223372036854775807) :
    Calls Tryz.prog 71 #[.string ⟨(45 :: t).toArray⟩, .int .i64 (most : Int)] w fun e w' => RetNB w (ngVal most t) (ngOk most t) e w' := by
  have hlen0 : (45 :: t : List UInt8).length = t.length + 1 := rfl
  obtain ⟨hk0, hg0⟩ := bget (45 :: t) 0 45 rfl
  have hx : (⟨(45 :: t).toArray⟩ : ByteArray).extract 1 (t.length + 1) = ⟨t.toArray⟩ := by
    rw [cut_eq33]
    simp
  by_cases hlen : 1 ≤ t.length ∧ t.length ≤ most
  · have Hlen := hide hlen
    obtain ⟨h1, h2⟩ := hlen
    go_enter Tryz.func71, Tryz.ntmps71
    go_wp2
    go_loop [8, 9] (fun a i => ∃ k : Nat, k ≤ t.length ∧ i = .int .i64 k ∧ Hid ((t.take k).all isDig = true) ∧ a = .int .i64 (valOf (t.take k) : Int)) (fun _ i => t.length - (intOf i).toNat)
    case atStart => exact ⟨0, by omega, rfl, rfl, rfl⟩
    case round =>
      obtain ⟨k, hk, rfl, hdig, rfl⟩ := hrel
      by_cases hlt : k < t.length
      · obtain ⟨c, hc⟩ : ∃ c, t[k]? = some c := ⟨_, List.getElem?_eq_getElem hlt⟩
        have Hts := hide (take_snoc t k c hc)
        have Hmem := hide (List.mem_of_getElem? hc)
        obtain ⟨hk1, hgl⟩ := bget t k c hc
        have hsm := val_small hdig.out (show (t.take k).length ≤ 12 by rw [List.length_take]; omega) (Nat.le_refl _)
        have Hdig := hdig
        clear hc hdig
        by_cases c1 : 48 ≤ c.toNat
        · by_cases c2 : c.toNat ≤ 57
          · have hd : isDig c = true := decide_eq_true ⟨c1, c2⟩
            have Hn : Hid ((t.take (k + 1)).all isDig = true) := by show _ = _; rw [Hts.out, List.all_append, Hdig.out]; simp [hd]
            have Hv : Hid ((valOf (t.take (k + 1)) : Int) = 10 * (valOf (t.take k) : Int) + ((c.toNat : Int) - 48)) := by show _ = _; rw [Hts.out, valOf_snoc]; omega
            clear hd
            go_wp2
            go_round
            case rel => exact ⟨_, _, _, _, ⟨k + 1, by omega, by go_num, List.all_eq_true.1 Hn.out, rfl⟩, rfl, rfl, by rw [Hv.out], by go_num⟩
            case measure => simp [intOf]; omega
          · have H := hide (ng_pd (pd_bad (most := most) Hmem.out (decide_eq_false (by omega) : isDig c = false)))
            have c3 : 57 < c.toNat := by omega
            clear c2
            go_wp2
            go_ret2
            rw [ngVal_no H.out, H.out]
            exact ⟨rfl, Below.refl _ _⟩
        · have H := hide (ng_pd (pd_bad (most := most) Hmem.out (decide_eq_false (by omega) : isDig c = false)))
          have c3 : c.toNat < 48 := by omega
          clear c1
          go_wp2
          go_ret2
          rw [ngVal_no H.out, H.out]
          exact ⟨rfl, Below.refl _ _⟩
      · have hk2 : t.length ≤ k := by omega
        have Ht := hide (take_all t k hk2)
        have Hd : Hid (t.all isDig = true) := by show _ = _; rw [← Ht.out]; exact hdig.out
        have hsm := val_small Hd.out (show t.length ≤ 12 by omega) (Nat.le_refl _)
        clear hdig
        have hsm2 := hsm
        go_wp2_with fail
        rw [Ht.out]
        rw [IntWalk.wrap64_in (-(valOf t : Int)) (by omega)]
        refine (formatIntS (-(valOf t : Int)) w (by omega)).mono ?_
        rintro e w2 ⟨rfl, b2⟩
        have B2 := hide b2
        have hiff := fmtZ_neg Hd.out (by omega : 0 < t.length)
        by_cases hpl : plainL t = true ∧ valOf t ≠ 0
        · have H : Hid (ngOk most t = true) := by show _ = _; unfold ngOk; rw [pd_mk Hlen.out hpl.1 Hd.out, decide_eq_true hpl.2]; rfl
          have hbe : (fmtZ (-(valOf t : Int)) == 45 :: t) = true := by simpa using hiff.2 hpl
          clear hpl b2 hiff
          go_wp2
          go_ret2
          rw [ngVal_yes H.out, H.out]
          exact ⟨rfl, B2.out⟩
        · have H : Hid (ngOk most t = false) := by
            show _ = _
            unfold ngOk
            by_cases hv : valOf t = 0
            · rw [decide_eq_false (by simpa using hv)]; simp
            · have hp : plainL t = false := by
                cases hh : plainL t
                · rfl
                · exact absurd ⟨hh, hv⟩ hpl
              rw [pd_plain hp]; rfl
          have hbe : (fmtZ (-(valOf t : Int)) == 45 :: t) = false := by
            have : fmtZ (-(valOf t : Int)) ≠ 45 :: t := fun e => hpl (hiff.1 e)
            simpa using this
          clear hpl b2 hiff
          go_wp2
          go_ret2
          rw [ngVal_no H.out, H.out]
          exact ⟨rfl, B2.out⟩
  · have H := hide (ng_pd (pd_len hlen))
    rcases Nat.lt_or_ge t.length 1 with h | h
    · have h0 : t.length = 0 := by omega
      clear hlen h
      go_enter Tryz.func71, Tryz.ntmps71
      go_wp2
      go_ret2
      rw [ngVal_no H.out, H.out]
      exact ⟨rfl, Below.refl _ _⟩
    · have h3 : most < t.length := by omega
      clear hlen
      go_enter Tryz.func71, Tryz.ntmps71
      go_wp2
      go_ret2
      rw [ngVal_no H.out, H.out]
      exact ⟨rfl, Below.refl _ _⟩
end

/- Walks: ParseNumber, ParseInt in the program. -/
section
open Go.RowKit
end

/- Walks: ParseNumber and ParseInt in the reference; both of both. -/
section
open Go.RowKit

theorem starts45 (l : List UInt8) : (∃ t, l = 45 :: t) ∨ (∀ t, l ≠ 45 :: t) := by
  cases l with
  | nil => exact .inr (fun t h => by cases h)
  | cons c t =>
    by_cases h : c = 45
    · exact .inl ⟨t, by rw [h]⟩
    · exact .inr (fun t h2 => h (List.cons.inj h2).1)
theorem pd_dash (most : Nat) (t : List UInt8) : pdOk most (45 :: t) = false := pd_bad (most := most) (c := 45) (by simp) (by decide)
theorem ng_bound {most : Nat} (hm : most ≤ 12) {t : List UInt8} (h : ngOk most t = true) : valOf t ≠ 0 ∧ valOf t < 1000000000000 := by
  unfold ngOk pdOk at h
  rw [Bool.and_eq_true, Bool.and_eq_true, Bool.and_eq_true] at h
  have h1 := of_decide_eq_true h.1.1.1
  exact ⟨of_decide_eq_true h.2, val_small h.1.2 (by omega) (Nat.le_refl _)⟩
theorem pd_bound {most : Nat} (hm : most ≤ 12) {t : List UInt8} (h : pdOk most t = true) : valOf t < 1000000000000 := by
  unfold pdOk at h
  rw [Bool.and_eq_true, Bool.and_eq_true] at h
  have h1 := of_decide_eq_true h.1.1
  exact val_small h.2 (by omega) (Nat.le_refl _)
theorem pi_pos {l : List UInt8} (h : ∀ t, l ≠ 45 :: t) : piOk l = pdOk 12 l ∧ piVal l = pdVal 12 l := by
  cases l with
  | nil => exact ⟨rfl, rfl⟩
  | cons c t =>
    have hc : c ≠ 45 := fun e => h t (by rw [e])
    constructor
    · unfold piOk
      split
      · rename_i e
        exact absurd (List.cons.inj e).1 hc
      · rfl
    · unfold piVal
      split
      · rename_i e
        exact absurd (List.cons.inj e).1 hc
      · rfl

theorem parseIntS (l : List UInt8) (w : World) (hl : l.length ≤ 9223372036854775807) :
    Calls Tryz.prog 39 #[.string ⟨l.toArray⟩] w fun e w' => RetNB w (piVal l) (piOk l) e w' := by
  have hp : Calls Tryz.prog 71 #[.string ⟨l.toArray⟩, .int .i64 ((12 : Nat) : Int)] w fun e w' => RetNB w (piVal l) (piOk l) e w' := by
    rcases starts45 l with ⟨t, rfl⟩ | h
    · exact l1ReadS_neg t 12 (by omega) w hl
    · have hh := l1ReadS_pos l 12 (by omega) w hl h
      rw [(pi_pos h).1, (pi_pos h).2]
      exact hh
  have Hp := hide hp
  clear hp
  go_enter Tryz.func39, Tryz.ntmps39
  go_wp2_with fail
  refine Calls.mono Hp.out ?_
  rintro e w' ⟨rfl, b1⟩
  have B1 := hide b1
  clear b1
  go_wp2
  go_ret2
  exact ⟨rfl, B1.out⟩
end

/- Walks: ParseComplex in the reference. -/
section
open Go.RowKit

theorem pcs_vals {l : List UInt8} {p r : List UInt8} (hs : pcs l = [p, r]) : pcsOk l = (piOk p && setsOk r && isCx (piVal p) (setsXs r)) := by
  unfold pcsOk
  rw [hs]
  rfl
theorem pcx_of {l p r : List UInt8} (hs : pcs l = [p, r]) : pcxOk l = (piOk p && setsOk r && isCx (piVal p) (setsXs r)) := by
  rw [← (pcs_eq l).1, pcs_vals hs]
theorem retCB_syes {w w' : World} {l p r : List UInt8} (hs : pcs l = [p, r]) (h : pcxOk l = true) {v : Value} (ho : OwnV 3 w' w.heap.size v (ints (setsXs r))) (hb : Below w.heap.size w w') : RetCB 3 w (pcxN l) (pcxXs l) (pcxOk l) (.returned (.tuple #[.agg #[.int .i64 (piVal p), v], .bool true])) w' := by
  obtain ⟨h1, h2⟩ := (pcs_eq l).2 h
  rw [hs] at h1 h2
  have h1' : piVal p = headN l := h1
  have h2' : setsXs r = setsXs (l.drop 2) := h2
  exact retCB_pyes h h1'.symm h2'.symm ho hb

set_option maxHeartbeats 1600000 in
theorem parseComplexS (l : List UInt8) (w : World) (hl : l.length ≤ 1073741000) :
    Calls Tryz.prog 8 #[.string ⟨l.toArray⟩] w fun e w' => RetCB 3 w (pcxN l) (pcxXs l) (pcxOk l) e w' := by
  obtain ⟨w1, hW1, at1, rs1, b1, z1⟩ := boxRes w 26
  have Rs1 := hide rs1
  have B1 := hide b1
  have At1 := hide at1
  have hp := splitByteS l 58 w1 (by omega)
  have Hp := hide hp
  clear at1 rs1 b1 z1 hp
  by_cases h2 : (pcs l).length = 2
  · obtain ⟨p, r, hlpr, _, _, hs⟩ := pcs_two h2
    have hs' : splitB 58 l = [p, r] := hs
    have hplen : p.length ≤ 1073741000 := by rw [hlpr] at hl; simp at hl; omega
    have hrl : r.length ≤ 1073741000 := by rw [hlpr] at hl; simp at hl; omega
    have Hs := hide hs
    have Hs' := hide hs'
    have Hok := hide (pcx_of hs)
    clear h2 hs hs' hlpr
    go_enter Tryz.func8, Tryz.ntmps8
    go_wp2_with fail
    clear hW1
    refine Calls.mono Hp.out ?_
    rw [Hs'.out]
    rintro e w2 ⟨pv, rfl, o2, b2⟩
    have At2 := hide (At1.out.to b2)
    have Rs2 := hide (Rs1.out.to b2)
    have B2 := hide (nxt B1.out b2)
    have O2 := hide o2
    obtain ⟨A2, c2, rfl, _, he2⟩ := formS_ (own_reads o2)
    obtain ⟨b, o, p', hA, _, hp', hcell0⟩ := he2 0 (by simp)
    obtain ⟨b', o', r', hA', _, hr', hcell1⟩ := he2 1 (by simp)
    subst hA
    cases hA'
    cases hp'
    cases hr'
    rw [Nat.add_zero] at hcell0
    have hbl := World.block_lt_of_cell? _ _ hcell0
    clear b2 o2 he2
    by_cases hr0 : r = []
    · have hone0 : (splitB 44 r).length = 1 := by rw [hr0]; rfl
      have Hr0 := hide hr0
      clear hr0
      go_wp2_with fail
      refine (parseIntS p w2 (by omega)).mono ?_
      rintro e w3 ⟨rfl, b3⟩
      have At3 := hide (At2.out.to b3)
      have Rs3 := hide (Rs2.out.to b3)
      have B3 := hide (nxt B2.out b3)
      have hcc1 := (b3.cell (p := ⟨b, o + 1, none⟩) hbl).trans hcell1
      have hbl3 := World.block_lt_of_cell? _ _ hcc1
      clear b3 hcell0 hcell1
      go_wp2_with fail
      obtain ⟨w4, hW4, at4, b4, z4⟩ := boxC w3 (.int .i64 (piVal p)) (.slice none 0 0) 26
      have rs4 : Res w3.heap.size w4 := by rw [← hW4]; exact ⟨⟨_, _, World.cell?_alloc_at _ _ _ _ rfl, World.cell?_alloc_at _ _ _ _ rfl⟩, by simp [go_sem], by simp [go_sem]⟩
      rw [hW4]
      refine (splitByteS r 44 w4 (by omega)).mono ?_
      rintro e w5 ⟨pv2, rfl, o5, b5⟩
      have hg1 : w3.heap.size + 1 ≤ w4.heap.size := by omega
      have hU0 : Under7 w3 w5 w3.heap.size (piVal p) [] pv2 (splitB 44 r) (.slice none 0 0) := ⟨at4.to b5, rs4.to b5, own_nil _ _, own_mono o5 hg1, fun j hj => (nomatch (show (none : Option Nat) = some j from hj)), nxt b4 b5⟩
      have HU0 : Hid (∃ v, Under7 w3 w5 w3.heap.size (piVal p) (setsTo (splitB 44 r) 0) pv2 (splitB 44 r) v) := ⟨_, hU0⟩
      obtain ⟨Ap, cp, rfl, _, _⟩ := formS_ (own_reads o5)
      have Hcc1 := hide hcc1
      clear at4 rs4 b4 z4 hW4 hU0 o5 b5 hg1 hcc1
      have hpl := splitB_len 44 r
      have Hpart : Hid (∀ q ∈ splitB 44 r, q.length ≤ 1073741824) := fun q hq => Nat.le_trans (splitB_part hq) (by omega)
      generalize hps : splitB 44 r = ps at *
      have Hps := hide hps
      clear hps
      go_wp2_with fail
      go_loopw [9, 10, 11] (fun i _ _ wr => ∃ k : Nat, k ≤ ps.length ∧ i = .int .i64 k ∧ Hid (∃ v, Under7 w3 wr w3.heap.size (piVal p) (setsTo ps k) (.slice Ap ps.length cp) ps v) ∧ Hid (∀ (j : Nat) q, j < k → ps[j]? = some q → (parseSet q).2 = true) ∧ Hid (r = [] → k = 0)) (fun i _ _ _ => ps.length - (intOf i).toNat)
      case atStart => exact ⟨0, by omega, rfl, HU0, fun j q hj => absurd hj (Nat.not_lt_zero _), fun _ => rfl⟩
      case round =>
        obtain ⟨k, hk, rfl, hu, hgood, hzero⟩ := hrel
        obtain ⟨v, hU⟩ := hu.out
        have HU := hide hU
        have hcr1 := (HU.out.below.cell (p := ⟨b, o + 1, none⟩) hbl3).trans Hcc1.out
        clear hu
        obtain rfl : k = 0 := hzero.out Hr0.out
        have hxs : setsTo ps 0 = setsXs r := by rw [Hr0.out]; rfl
        have hso : setsOk r = true := by rw [Hr0.out]; rfl
        have hee : (r == []) = true := by rw [Hr0.out]; rfl
        have hee2 : (r != []) = false := by rw [Hr0.out]; rfl
        have Hok2 : Hid (pcxOk l = (piOk p && isCx (piVal p) (setsXs r))) := by show _ = _; rw [Hok.out, hso, Bool.and_true]
        have hlx : (setsXs r).length ≤ 1073741824 := by rw [← hxs]; have := setsTo_len ps 0; omega
        rw [hxs] at hU
        have HV := hide hU
        obtain ⟨Av, nv, cv, rfl⟩ := own_shape56 hU.own
        have HAt1 := hide (At3.out.to HV.out.below)
        have HRs1 := hide (Rs3.out.to HV.out.below)
        have HB := hide (nxt B3.out HV.out.below)
        clear hU HU hgood hxs hso hzero
        cases hpi : piOk p
        · have Hno : Hid (pcxOk l = false) := by show _ = _; rw [Hok2.out, hpi]; rfl
          obtain ⟨x6_0, x6_1⟩ := HAt1.out
          obtain ⟨_, f0, f1⟩ := HRs1.out
          have hr := HRs1.out.lt
          go_wp2
          refine bodyPost_ret (v := .tuple #[.agg #[.int .i64 0, .slice none 0 0], .bool false]) (by simp [results, Tryz.results8, go_sem, x6_0, x6_1]) rfl ?_
          exact retCB_pno Hno.out (below_store HB.out (Nat.le_refl _) _ _)
        · have Hpi := hide hpi
          obtain ⟨e6_0, e6_1⟩ := HV.out.box
          go_wp2_with fail
          refine (isComplexS (piVal p) _ (setsXs r) wr (own_reads HV.out.own) hlx).mono ?_
          cases hcx : isCx (piVal p) (setsXs r)
          · have Hno : Hid (pcxOk l = false) := by show _ = _; rw [Hok2.out, hcx, Bool.and_false]
            clear hcx e6_0 e6_1
            rintro e w7 ⟨rfl, b7⟩
            obtain ⟨e7_0, e7_1⟩ := HAt1.out.to b7
            obtain ⟨_, f0, f1⟩ := HRs1.out.to b7
            have hr := (HRs1.out.to b7).lt
            have B7 := hide (nxt HB.out b7)
            clear b7
            go_wp2
            refine bodyPost_ret (v := .tuple #[.agg #[.int .i64 0, .slice none 0 0], .bool false]) (by simp [results, Tryz.results8, go_sem, e7_0, e7_1]) rfl ?_
            exact retCB_pno Hno.out (below_store B7.out (Nat.le_refl _) _ _)
          · have Hyes : Hid (pcxOk l = true) := by show _ = _; rw [Hok2.out, hcx, Hpi.out]; rfl
            clear hcx e6_0 e6_1
            rintro e w7 ⟨rfl, b7⟩
            obtain ⟨e7_0, e7_1⟩ := HV.out.box.to b7
            obtain ⟨⟨q0, q1, h70, h71⟩, f0, f1⟩ := HRs1.out.to b7
            have hr := (HRs1.out.to b7).lt
            have hr2 := (HV.out.res.to b7).lt
            have Hle : Hid (w.heap.size < w3.heap.size) := Rs3.out.lt
            have Hne : Hid (w.heap.size ≠ w3.heap.size) := by have := Hle.out; show _ ≠ _; omega
            have hne2 := Hne.out
            have HO := hide (own_below HV.out.own b7)
            have B7 := hide (nxt HB.out b7)
            clear b7
            go_wp2
            refine bodyPost_ret (v := .tuple #[.agg #[.int .i64 (piVal p), .slice Av nv cv], .bool true]) (by simp [results, Tryz.results8, go_sem, h70, h71]) rfl ?_
            refine retCB_syes Hs.out Hyes.out (own_setNe (own_setNe (own_mono HO.out (by have := Hle.out; omega)) (fun j hj => by have := (own_block HO.out j hj).1; have := Hle.out; omega) _ _) (fun j hj => by have := (own_block HO.out j hj).1; have := Hle.out; omega) _ _) (below_store B7.out (Nat.le_refl _) _ _)
    · have hee : (r == []) = false := by simpa using hr0
      have hee2 : (r != []) = true := by rw [bne, hee]; rfl
      have Hr0 := hide hr0
      clear hr0
      go_wp2_with fail
      refine (parseIntS p w2 (by omega)).mono ?_
      rintro e w3 ⟨rfl, b3⟩
      have At3 := hide (At2.out.to b3)
      have Rs3 := hide (Rs2.out.to b3)
      have B3 := hide (nxt B2.out b3)
      have hcc1 := (b3.cell (p := ⟨b, o + 1, none⟩) hbl).trans hcell1
      have hbl3 := World.block_lt_of_cell? _ _ hcc1
      clear b3 hcell0 hcell1
      go_wp2_with fail
      obtain ⟨w4, hW4, at4, b4, z4⟩ := boxC w3 (.int .i64 (piVal p)) (.slice none 0 0) 26
      have rs4 : Res w3.heap.size w4 := by rw [← hW4]; exact ⟨⟨_, _, World.cell?_alloc_at _ _ _ _ rfl, World.cell?_alloc_at _ _ _ _ rfl⟩, by simp [go_sem], by simp [go_sem]⟩
      rw [hW4]
      refine (splitByteS r 44 w4 (by omega)).mono ?_
      rintro e w5 ⟨pv2, rfl, o5, b5⟩
      have hg1 : w3.heap.size + 1 ≤ w4.heap.size := by omega
      have hU0 : Under7 w3 w5 w3.heap.size (piVal p) [] pv2 (splitB 44 r) (.slice none 0 0) := ⟨at4.to b5, rs4.to b5, own_nil _ _, own_mono o5 hg1, fun j hj => (nomatch (show (none : Option Nat) = some j from hj)), nxt b4 b5⟩
      have HU0 : Hid (∃ v, Under7 w3 w5 w3.heap.size (piVal p) (setsTo (splitB 44 r) 0) pv2 (splitB 44 r) v) := ⟨_, hU0⟩
      obtain ⟨Ap, cp, rfl, _, _⟩ := formS_ (own_reads o5)
      have Hcc1 := hide hcc1
      clear at4 rs4 b4 z4 hW4 hU0 o5 b5 hg1 hcc1
      have hpl := splitB_len 44 r
      have Hpart : Hid (∀ q ∈ splitB 44 r, q.length ≤ 1073741824) := fun q hq => Nat.le_trans (splitB_part hq) (by omega)
      generalize hps : splitB 44 r = ps at *
      have Hps := hide hps
      clear hps
      go_wp2_with fail
      go_loopw [9, 10, 11] (fun i _ _ wr => ∃ k : Nat, k ≤ ps.length ∧ i = .int .i64 k ∧ Hid (∃ v, Under7 w3 wr w3.heap.size (piVal p) (setsTo ps k) (.slice Ap ps.length cp) ps v) ∧ Hid (∀ (j : Nat) q, j < k → ps[j]? = some q → (parseSet q).2 = true) ∧ Hid (r = [] → k = 0)) (fun i _ _ _ => ps.length - (intOf i).toNat)
      case atStart => exact ⟨0, by omega, rfl, HU0, fun j q hj => absurd hj (Nat.not_lt_zero _), fun _ => rfl⟩
      case round =>
        obtain ⟨k, hk, rfl, hu, hgood, hzero⟩ := hrel
        obtain ⟨v, hU⟩ := hu.out
        have HU := hide hU
        have hcr1 := (HU.out.below.cell (p := ⟨b, o + 1, none⟩) hbl3).trans Hcc1.out
        clear hu
        by_cases hlt : k < ps.length
        · obtain ⟨A', c', hv', _, he⟩ := formS_ (own_reads hU.parts)
          cases hv'
          obtain ⟨b9, o9, q, hA, _, hp, hcell⟩ := he k hlt
          subst hA
          have hpl2 := Hpart.out q (List.mem_of_getElem? hp)
          have Hp2 := hide hp
          clear he hp hU
          cases hps2 : (parseSet q).2
          · have Hno : Hid (pcxOk l = false) := by
              show _ = _
              rw [Hok.out, setsOk_bad (p := q) (k := k) Hr0.out (by rw [Hps.out]; exact Hp2.out) hps2, Bool.and_false, Bool.false_and]
            have Hps2 := hide hps2
            clear hps2
            go_wp2_with fail
            refine (parseSetS2 q wr (by omega)).mono ?_
            rw [Hps2.out]
            rintro e w6 ⟨rfl, b6⟩
            obtain ⟨e6_0, e6_1⟩ := (At3.out.to HU.out.below).to b6
            obtain ⟨_, f0, f1⟩ := (Rs3.out.to HU.out.below).to b6
            have hr := ((Rs3.out.to HU.out.below).to b6).lt
            have B6 := hide (nxt (nxt B3.out HU.out.below) b6)
            clear b6 hcell hcr1
            go_wp2
            refine bodyPost_ret (v := .tuple #[.agg #[.int .i64 0, .slice none 0 0], .bool false]) (by simp [results, Tryz.results8, go_sem, e6_0, e6_1]) rfl ?_
            exact retCB_pno Hno.out (below_store B6.out (Nat.le_refl _) _ _)
          · have Hps2 := hide hps2
            have Hsn := hide (setsTo_snoc Hp2.out)
            have Hgood : Hid (∀ (j : Nat) q, j < k + 1 → ps[j]? = some q → (parseSet q).2 = true) := by
              intro j q hj hq
              rcases Nat.lt_or_ge j k with h | h
              · exact hgood.out j q h hq
              · obtain rfl : j = k := by omega
                rw [Hp2.out] at hq
                cases hq
                exact Hps2.out
            have hsl := setsTo_len ps k
            clear hps2 hgood
            go_wp2_with fail
            refine (parseSetS2 q wr (by omega)).mono ?_
            rw [Hps2.out]
            rintro e w6 ⟨rfl, b6⟩
            have HU6 : Hid (Under7 w3 w6 w3.heap.size (piVal p) (setsTo ps k) (.slice (some ⟨b9, o9, none⟩) ps.length cp) ps v) := HU.out.to b6
            have ho := HU6.out.own
            obtain ⟨e6_0, e6_1⟩ := HU6.out.box
            have hlen : (setsTo ps k).length < 17179869184 := by omega
            have hsz := HU6.out.res.lt
            have hsz' : w3.heap.size + 1 ≤ w6.heap.size := by omega
            clear b6 hcell hcr1
            go_wp2_with (at_builtin; refine wpList_appAt ho (((parseSet q).1 : Nat) : Int) Tryz.underlying24 infoI rfl _ _ rfl rfl rfl hlen hsz' ?_; intro v' w7 ho7 hb7 hg7 hat7; obtain ⟨hbx7, hrs7, hU7⟩ := HU6.out.step ho7 hg7 hat7; obtain ⟨_, hf70, hf71⟩ := hrs7; obtain ⟨hc70, hc71⟩ := hbx7; obtain ⟨A7, n7, c7, rfl⟩ := own_shape56 ho7)
            have HU7 : Hid (∃ v, Under7 w3 (w7.setCell ⟨w3.heap.size, 1, none⟩ (.slice A7 n7 c7)) w3.heap.size (piVal p) (setsTo ps (k + 1)) (.slice (some ⟨b9, o9, none⟩) ps.length cp) ps v) := ⟨_, by rw [Hsn.out]; exact hU7⟩
            clear hU7
            go_wp2
            go_roundw
            case rel => exact ⟨k + 1, by omega, by go_num, HU7, Hgood, fun e => absurd e Hr0.out⟩
            case measure => simp [intOf]; omega
        · have hk2 : ps.length ≤ k := by omega
          have hxs : setsTo ps k = setsXs r := by rw [setsTo_all hk2, setsXs_ne Hr0.out, Hps.out]
          have hso : setsOk r = true := setsOk_good (by rw [Hps.out]; exact fun j q hq => hgood.out j q (by have := (List.getElem?_eq_some_iff.1 hq).1; omega) hq)
          have Hok2 : Hid (pcxOk l = (piOk p && isCx (piVal p) (setsXs r))) := by show _ = _; rw [Hok.out, hso, Bool.and_true]
          have hlx : (setsXs r).length ≤ 1073741824 := by rw [← hxs]; have := setsTo_len ps k; omega
          rw [hxs] at hU
          have HV := hide hU
          obtain ⟨Av, nv, cv, rfl⟩ := own_shape56 hU.own
          have HAt1 := hide (At3.out.to HV.out.below)
          have HRs1 := hide (Rs3.out.to HV.out.below)
          have HB := hide (nxt B3.out HV.out.below)
          clear hU HU hgood hxs hso hzero
          cases hpi : piOk p
          · have Hno : Hid (pcxOk l = false) := by show _ = _; rw [Hok2.out, hpi]; rfl
            obtain ⟨x6_0, x6_1⟩ := HAt1.out
            obtain ⟨_, f0, f1⟩ := HRs1.out
            have hr := HRs1.out.lt
            go_wp2
            refine bodyPost_ret (v := .tuple #[.agg #[.int .i64 0, .slice none 0 0], .bool false]) (by simp [results, Tryz.results8, go_sem, x6_0, x6_1]) rfl ?_
            exact retCB_pno Hno.out (below_store HB.out (Nat.le_refl _) _ _)
          · have Hpi := hide hpi
            obtain ⟨e6_0, e6_1⟩ := HV.out.box
            go_wp2_with fail
            refine (isComplexS (piVal p) _ (setsXs r) wr (own_reads HV.out.own) hlx).mono ?_
            cases hcx : isCx (piVal p) (setsXs r)
            · have Hno : Hid (pcxOk l = false) := by show _ = _; rw [Hok2.out, hcx, Bool.and_false]
              clear hcx e6_0 e6_1
              rintro e w7 ⟨rfl, b7⟩
              obtain ⟨e7_0, e7_1⟩ := HAt1.out.to b7
              obtain ⟨_, f0, f1⟩ := HRs1.out.to b7
              have hr := (HRs1.out.to b7).lt
              have B7 := hide (nxt HB.out b7)
              clear b7
              go_wp2
              refine bodyPost_ret (v := .tuple #[.agg #[.int .i64 0, .slice none 0 0], .bool false]) (by simp [results, Tryz.results8, go_sem, e7_0, e7_1]) rfl ?_
              exact retCB_pno Hno.out (below_store B7.out (Nat.le_refl _) _ _)
            · have Hyes : Hid (pcxOk l = true) := by show _ = _; rw [Hok2.out, hcx, Hpi.out]; rfl
              clear hcx e6_0 e6_1
              rintro e w7 ⟨rfl, b7⟩
              obtain ⟨e7_0, e7_1⟩ := HV.out.box.to b7
              obtain ⟨⟨q0, q1, h70, h71⟩, f0, f1⟩ := HRs1.out.to b7
              have hr := (HRs1.out.to b7).lt
              have hr2 := (HV.out.res.to b7).lt
              have Hle : Hid (w.heap.size < w3.heap.size) := Rs3.out.lt
              have Hne : Hid (w.heap.size ≠ w3.heap.size) := by have := Hle.out; show _ ≠ _; omega
              have hne2 := Hne.out
              have HO := hide (own_below HV.out.own b7)
              have B7 := hide (nxt HB.out b7)
              clear b7
              go_wp2
              refine bodyPost_ret (v := .tuple #[.agg #[.int .i64 (piVal p), .slice Av nv cv], .bool true]) (by simp [results, Tryz.results8, go_sem, h70, h71]) rfl ?_
              refine retCB_syes Hs.out Hyes.out (own_setNe (own_setNe (own_mono HO.out (by have := Hle.out; omega)) (fun j hj => by have := (own_block HO.out j hj).1; have := Hle.out; omega) _ _) (fun j hj => by have := (own_block HO.out j hj).1; have := Hle.out; omega) _ _) (below_store B7.out (Nat.le_refl _) _ _)
  · have hne2 : ((splitB 58 l).length : Int) ≠ 2 := by
      intro e
      exact h2 (by show (splitB 58 l).length = 2; omega)
    have hne : (((splitB 58 l).length : Int) != 2) = true := by simpa using hne2
    have Hno : Hid (pcxOk l = false) := by
      show _ = _
      rw [← (pcs_eq l).1]
      unfold pcsOk
      rw [decide_eq_false h2]
      rfl
    clear h2 hne2
    go_enter Tryz.func8, Tryz.ntmps8
    go_wp2_with fail
    clear hW1
    refine Calls.mono Hp.out ?_
    rintro e w2 ⟨pv, rfl, o2, b2⟩
    obtain ⟨e2_0, e2_1⟩ := At1.out.to b2
    obtain ⟨_, f0, f1⟩ := Rs1.out.to b2
    have hr := (Rs1.out.to b2).lt
    have B2 := hide (nxt B1.out b2)
    obtain ⟨A2, c2, rfl, _, he2⟩ := formS_ (own_reads o2)
    clear b2 o2 he2
    go_wp2
    refine bodyPost_ret (v := .tuple #[.agg #[.int .i64 0, .slice none 0 0], .bool false]) (by simp [results, Tryz.results8, go_sem, e2_0, e2_1]) rfl ?_
    exact retCB_pno Hno.out (below_store B2.out (Nat.le_refl _) _ _)
end

/- Walks: BorderComplex. -/
section
open Go.RowKit

/-- All sets of n points but the fullest: of both makings. -/
def full (n : Nat) : Nat := 2 ^ n - 1
def borderSets (n : Nat) : List Int := zs (List.range (full n))
theorem borderSets_snoc (k : Nat) : zs (List.range (k + 1)) = zs (List.range k) ++ [(k : Int)] := by rw [List.range_succ, zs_snoc]
theorem full_lt {n : Nat} (h : n ≤ 6) : full n < 64 := by
  have := Nat.pow_le_pow_right (n := 2) (by omega) h
  unfold full
  have := Nat.two_pow_pos n
  omega
theorem border_all {n : Nat} (h : n ≤ 6) : allSets (borderSets n) = true := by
  refine List.all_eq_true.2 fun x hx => decide_eq_true ?_
  obtain ⟨k, hk, rfl⟩ := List.mem_map.1 hx
  have := List.mem_range.1 hk
  have := full_lt h
  constructor <;> omega
theorem border_in (m s : Nat) : inList (zs (List.range m)) s = decide (s < m) := by
  unfold inList
  rw [Bool.eq_iff_iff, List.contains_iff_mem]
  simp [zs]
  constructor
  · rintro ⟨a, h, e⟩
    omega
  · intro h
    exact ⟨s, h, rfl⟩
def borderP (n : Nat) (s : Nat) : Bool := sub s (full n) && s != full n
def borderEq (n s : Nat) : Bool := borderP n s == decide (s < full n)
theorem borderEq_all : ((List.range 7).all fun n => (List.range 64).all fun s => borderEq n s) = true := by decide +kernel
theorem border_eq {n s : Nat} (hn : n ≤ 6) (hs : s < 64) : borderP n s = decide (s < full n) := by
  have h1 := List.all_eq_true.1 (List.all_eq_true.1 borderEq_all n (List.mem_range.2 (by omega))) s (List.mem_range.2 hs)
  unfold borderEq at h1
  simpa using h1
theorem border_max {n : Nat} (hn : n ≤ 6) : maxOf (borderP n) = maxOf (inList (borderSets n)) := maxOf_congr fun s hs => by rw [border_eq hn hs]; exact (border_in _ _).symm
theorem border_fam : ∀ n : Nat, 1 ≤ n → n ≤ 6 → bits BinOp.andNot IntKind.u64 ((fam (fun u => sub u (full n)) : Nat) : Int) (IntKind.u64.wrap (2 ^ full n)) = ((fam (borderP n) : Nat) : Int) := by
  intro n h1 h6
  rcases (by omega : n = 1 ∨ n = 2 ∨ n = 3 ∨ n = 4 ∨ n = 5 ∨ n = 6) with rfl | rfl | rfl | rfl | rfl | rfl <;> decide +kernel
theorem full_wrap : ∀ n : Nat, 1 ≤ n → n ≤ 6 → wrap64 (wrap64 (2 ^ ((n : Int)).toNat) - 1) = ((full n : Nat) : Int) := by
  intro n h1 h6
  rcases (by omega : n = 1 ∨ n = 2 ∨ n = 3 ∨ n = 4 ∨ n = 5 ∨ n = 6) with rfl | rfl | rfl | rfl | rfl | rfl <;> decide +kernel
theorem full_wrap2 (n : Nat) (h1 : 1 ≤ n) (h6 : n ≤ 6) : wrap64 (wrap64 (2 ^ n) - 1) = ((full n : Nat) : Int) := by
  have := full_wrap n h1 h6
  rwa [Int.toNat_natCast] at this
def borderOk (n : Int) : Bool := decide (1 ≤ n ∧ n ≤ 6)
def borderN (n : Int) : Int := if 1 ≤ n ∧ n ≤ 6 then n else 0
def borderXs (n : Int) : List Int := if 1 ≤ n ∧ n ≤ 6 then zs (maxOf (inList (borderSets n.toNat))) else []
theorem zs_len16 (l : List Nat) : (zs l).length = l.length := List.length_map _
theorem borderXs_len (n : Int) : (borderXs n).length ≤ 448 := by
  unfold borderXs
  split
  · rw [zs_len16]; exact maxOf_len _
  · simp
theorem retCB_border {w w' : World} {n : Nat} (h : 1 ≤ n ∧ n ≤ 6) {v : Value} (ho : OwnV 3 w' w.heap.size v (ints (zs (maxOf (inList (borderSets n)))))) (hb : Below w.heap.size w w') : RetCB 3 w (borderN n) (borderXs n) (borderOk n) (.returned (.tuple #[.agg #[.int .i64 (n : Int), v], .bool true])) w' := by
  unfold borderN borderXs borderOk
  have h' : (1 : Int) ≤ (n : Int) ∧ (n : Int) ≤ 6 := by omega
  rw [if_pos h', if_pos h', decide_eq_true h']
  exact ⟨_, rfl, ho, hb⟩
theorem retCB_noBorder {w w' : World} {n : Int} (h : ¬ (1 ≤ n ∧ n ≤ 6)) (hb : Below w.heap.size w w') : RetCB 3 w (borderN n) (borderXs n) (borderOk n) (.returned (.tuple #[.agg #[.int .i64 0, .slice none 0 0], .bool false])) w' := by
  unfold borderN borderXs borderOk
  rw [if_neg h, if_neg h, decide_eq_false h]
  exact ⟨_, rfl, own_nil _ _, hb⟩

theorem borderComplexI (n : Int) (w : World) : Calls Tryz.prog 17 #[.int .i64 n] w fun e w' => RetCB 3 w (borderN n) (borderXs n) (borderOk n) e w' := by
  by_cases hn : 1 ≤ n ∧ n ≤ 6
  · obtain ⟨m, rfl⟩ := Int.eq_ofNat_of_zero_le (by omega : 0 ≤ n)
    have Hm : Hid (1 ≤ m ∧ m ≤ 6) := by show _ ∧ _; omega
    have hw := full_wrap2 m Hm.out.1 Hm.out.2
    have hf := border_fam m Hm.out.1 Hm.out.2
    have hfl := full_lt Hm.out.2
    have Hmax := hide (border_max Hm.out.2)
    obtain ⟨h1, h2⟩ := hn
    go_enter Tryz.func17, Tryz.ntmps17
    go_wp2_with (go_at_call 53; refine (subsetFamilyI (full m) hfl _).mono ?_; rintro e wx ⟨rfl, rfl⟩)
    refine (complexOfI m (borderP m) _).mono ?_
    rintro e w1 ⟨v', rfl, hown, hb⟩
    rw [Hmax.out] at hown
    obtain ⟨A', c', rfl⟩ := own_shape hown
    obtain ⟨ho, hfar⟩ := own_far (C := w.heap.size + 1) (D := w.heap.size) hown (by (try simp only [World.size_alloc]); omega) (by (try simp only [World.size_alloc]); omega)
    have Ho := hide ho
    have Hfar := hide hfar
    have Hb : Hid (Below w.heap.size w w1) := (below_alloc w _).trans (hb.mono (by (try simp only [World.size_alloc]); omega))
    obtain ⟨hc, hf⟩ := bcell hb
    have hz := hb.size
    simp only [World.size_alloc] at hz
    clear hown hb ho hfar
    go_wp2
    refine bodyPost_ret (v := .tuple #[.agg #[.int .i64 m, .slice A' (zs (maxOf (inList (borderSets m)))).length c'], .bool true]) (by simp [results, Tryz.results17, go_sem, hc]) rfl ?_
    refine retCB_border Hm.out (own_setNe (own_setNe Ho.out (fun k hk => by have := Hfar.out k hk; omega) _ _) (fun k hk => by have := Hfar.out k hk; omega) _ _) ?_
    have hbw := Hb.out
    go_grown
  · have Hn := hide hn
    rcases Int.lt_or_le n 1 with h | h
    · clear hn
      go_enter Tryz.func17, Tryz.ntmps17
      go_wp2
      refine bodyPost_ret (v := .tuple #[.agg #[.int .i64 0, .slice none 0 0], .bool false]) (by simp [results, Tryz.results17, go_sem]) rfl ?_
      exact retCB_noBorder Hn.out (below_alloc _ _)
    · have h2 : 6 < n := by omega
      clear hn
      go_enter Tryz.func17, Tryz.ntmps17
      go_wp2
      refine bodyPost_ret (v := .tuple #[.agg #[.int .i64 0, .slice none 0 0], .bool false]) (by simp [results, Tryz.results17, go_sem]) rfl ?_
      exact retCB_noBorder Hn.out (below_alloc _ _)

theorem borderComplexS (n : Int) (w : World) : Calls Tryz.prog 18 #[.int .i64 n] w fun e w' => RetCB 3 w (borderN n) (borderXs n) (borderOk n) e w' := by
  obtain ⟨w1, hW1, at1, b1, z1⟩ := boxC w (.int .i64 0) (.slice none 0 0) 26
  have Hat := hide at1
  have B1 := hide b1
  have Hfz : Hid (∀ o, w1.frozen? ⟨w.heap.size, o, none⟩ = false) := by
    intro o
    rw [← hW1]
    simp [go_sem]
  clear at1 b1
  have hf0 := Hfz.out 0
  have hf1 := Hfz.out 1
  obtain ⟨e0, e1⟩ := Hat.out
  have hwb : w.heap.size < w1.heap.size := by omega
  have Hz1 := hide z1
  clear z1
  by_cases hn : 1 ≤ n ∧ n ≤ 6
  · have Hin : Hid (inB n 1 6 = true) := inB_mk hn
    obtain ⟨m, rfl⟩ := Int.eq_ofNat_of_zero_le (by omega : 0 ≤ n)
    have Hm : Hid (1 ≤ m ∧ m ≤ 6) := by show _ ∧ _; omega
    have hw := full_wrap2 m Hm.out.1 Hm.out.2
    have hfl := full_lt Hm.out.2
    obtain ⟨h1, h2⟩ := hn
    go_enter Tryz.func18, Tryz.ntmps18
    go_wp2_with (go_at_call 47; refine (l1InS _ _ _ _).mono ?_; rw [Hin.out]; rintro e w' ⟨rfl, rfl⟩)
    clear hW1
    obtain ⟨ho, hbw⟩ : OwnV 3 (w1.alloc (.cells #[] 3)) w1.heap.size (.slice (some ⟨w1.heap.size, 0, none⟩) 0 0) (ints (zs (List.range 0))) ∧ Below w1.heap.size w1 (w1.alloc (.cells #[] 3)) := ⟨own_empty _ _, below_alloc _ _⟩
    have Ho := hide ho
    have Hbw := hide hbw
    clear ho hbw e0 e1 hf0 hf1
    go_loopw [4, 5] (fun v i wr => ∃ k : Nat, k ≤ full m ∧ i = .int .i64 k ∧ OwnV 3 wr w1.heap.size v (ints (zs (List.range k))) ∧ Below w1.heap.size w1 wr) (fun _ i _ => full m - (intOf i).toNat)
    case atStart => exact ⟨0, by omega, rfl, Ho.out, Hbw.out⟩
    case round =>
      obtain ⟨k, hk, rfl, hown, hb⟩ := hrel
      by_cases hlt : k < full m
      · have hlen : (zs (List.range k)).length < 17179869184 := by rw [zs_len16, List.length_range]; omega
        have hsz := hb.size
        have Hb := hide hb
        clear hb
        go_wp2_with (at_builtin; refine wpList_appI hown (k : Int) Tryz.underlying24 infoI rfl _ _ rfl rfl rfl hlen hsz ?_; intro v' w2 hown2 hb2 hg2)
        have Hown2 : Hid (OwnV 3 w2 w1.heap.size v' (ints (zs (List.range (k + 1))))) := by rw [borderSets_snoc]; exact hown2
        have Hb2 : Hid (Below w1.heap.size w1 w2) := Hb.out.trans hb2
        go_wp2
        go_roundw
        case rel => exact ⟨k + 1, by omega, by go_num, Hown2.out, Hb2.out⟩
        case measure => simp [intOf]; omega
      · obtain rfl : k = full m := by omega
        have Hr := hide (own_reads hown)
        have Hb := hide hb
        have Hall := hide (border_all Hm.out.2)
        have hlen : (borderSets m).length ≤ 1073741824 := by unfold borderSets; rw [zs_len16, List.length_range]; omega
        clear hown hb
        go_wp2_with fail
        refine (l3MakeS m _ (borderSets m) wr Hr.out hlen Hall.out).mono ?_
        rintro e w2 ⟨v', rfl, hown, hb⟩
        obtain ⟨A', c', rfl⟩ := own_shape hown
        have hz0 := Hb.out.size
        have z1 := Hz1.out
        obtain ⟨ho, hfar⟩ := own_far (C := w.heap.size + 1) (D := w.heap.size) hown (by omega) (by omega)
        have Ho2 := hide ho
        have Hfar := hide hfar
        have Hb12 := nxt Hb.out hb
        have Hb2 : Hid (Below w.heap.size w w2) := B1.out.trans (Hb12.mono (by omega))
        obtain ⟨e0, e1⟩ := Hat.out.to Hb12
        obtain ⟨hc, hf⟩ := bcell Hb12
        have hz := hb.size
        clear z1
        have f0' := (hf w.heap.size 0 hwb).trans (Hfz.out 0)
        have f1' := (hf w.heap.size 1 hwb).trans (Hfz.out 1)
        clear hown hb ho hfar hc hf Hb12
        go_wp2
        refine bodyPost_ret (v := .tuple #[.agg #[.int .i64 m, .slice A' (zs (maxOf (inList (borderSets m)))).length c'], .bool true]) (by simp [results, Tryz.results18, go_sem, e0, e1]) rfl ?_
        refine retCB_border Hm.out (own_setNe (own_setNe Ho2.out (fun k hk => by have := Hfar.out k hk; omega) _ _) (fun k hk => by have := Hfar.out k hk; omega) _ _) ?_
        have hbw := Hb2.out
        go_grown
  · have Hin : Hid (inB n 1 6 = false) := inB_no hn
    have H := hide hn
    clear hn
    go_enter Tryz.func18, Tryz.ntmps18
    go_wp2_with (go_at_call 47; refine (l1InS _ _ _ _).mono ?_; rw [Hin.out]; rintro e w' ⟨rfl, rfl⟩)
    refine bodyPost_ret (v := .tuple #[.agg #[.int .i64 0, .slice none 0 0], .bool false]) (by simp [results, Tryz.results18, go_sem, e0, e1]) rfl ?_
    refine retCB_noBorder H.out ?_
    have hbw := B1.out
    go_grown
end
end Go.Proofs.YtmkacjpjcfffmabGreatDoor
