/- Walks: l1Read, ParseNumber, ParseInt in the reference. -/
import Derived.Test.YtmkacjpjcfffmaaDoorW32
import Derived.Test.YtmkacjpjcfffmaaDoorW33
namespace Go.Proofs.YtmkacjpjcfffmaaDoor
open Go.RowKit

theorem fmtZ_nat (v : Nat) : fmtZ (v : Int) = fmtN v := by
  unfold fmtZ fmtN
  by_cases h : v = 0
  · rw [if_pos h, if_pos (by omega)]
  · rw [if_neg h, if_neg (by omega), if_neg (by omega), Int.natAbs_natCast]
theorem l1ReadS_pos (l : List UInt8) (most : Nat) (hm : most ≤ 12) (w : World) (hl : l.length ≤ 9223372036854775807) (h : ∀ t, l ≠ 45 :: t) :
    Calls Tryd.prog 32 #[.string ⟨l.toArray⟩, .int .i64 (most : Int)] w fun e w' => RetNB w (pdVal most l) (pdOk most l) e w' := by
  by_cases hlen : 1 ≤ l.length ∧ l.length ≤ most
  · have Hlen := hide hlen
    obtain ⟨h1, h2⟩ := hlen
    obtain ⟨c0, hc0⟩ : ∃ c, l[0]? = some c := ⟨_, List.getElem?_eq_getElem (by omega)⟩
    obtain ⟨hk0, hg0⟩ := bget l 0 c0 hc0
    have hc45 : ((c0.toNat : Int) == 45) = false := by
      rw [beq_eq_false_iff_ne]
      intro e
      have h5 : c0.toNat = 45 := by omega
      have h6 : UInt8.ofNat c0.toNat = UInt8.ofNat 45 := by rw [h5]
      cases l with
      | nil => simp at h1
      | cons c t =>
        have : c = c0 := by simpa using hc0
        subst this
        exact h t (by rw [show c = 45 by simpa using h6])
    clear hc0 h
    go_enter Tryd.func32, Tryd.ntmps32
    go_wp2
    go_loop [8, 9] (fun a i => ∃ k : Nat, k ≤ l.length ∧ i = .int .i64 k ∧ Hid ((l.take k).all isDig = true) ∧ a = .int .i64 (valOf (l.take k) : Int)) (fun _ i => l.length - (intOf i).toNat)
    case atStart => exact ⟨0, by omega, rfl, rfl, rfl⟩
    case round =>
      obtain ⟨k, hk, rfl, hdig, rfl⟩ := hrel
      by_cases hlt : k < l.length
      · obtain ⟨c, hc⟩ : ∃ c, l[k]? = some c := ⟨_, List.getElem?_eq_getElem hlt⟩
        have Hts := hide (take_snoc l k c hc)
        have Hmem := hide (List.mem_of_getElem? hc)
        obtain ⟨hk1, hgl⟩ := bget l k c hc
        have hsm := val_small hdig.out (show (l.take k).length ≤ 12 by rw [List.length_take]; omega) (Nat.le_refl _)
        have Hdig := hdig
        clear hc hdig
        by_cases c1 : 48 ≤ c.toNat
        · by_cases c2 : c.toNat ≤ 57
          · have hd : isDig c = true := decide_eq_true ⟨c1, c2⟩
            have Hn : Hid ((l.take (k + 1)).all isDig = true) := by show _ = _; rw [Hts.out, List.all_append, Hdig.out]; simp [hd]
            have Hv : Hid ((valOf (l.take (k + 1)) : Int) = 10 * (valOf (l.take k) : Int) + ((c.toNat : Int) - 48)) := by show _ = _; rw [Hts.out, valOf_snoc]; omega
            clear hd
            go_wp2
            go_round
            case rel => exact ⟨_, _, _, _, ⟨k + 1, by omega, by go_num, List.all_eq_true.1 Hn.out, rfl⟩, rfl, rfl, by rw [Hv.out], by go_num⟩
            case measure => simp [intOf]; omega
          · have H := hide (pd_bad (most := most) Hmem.out (decide_eq_false (by omega) : isDig c = false))
            have c3 : 57 < c.toNat := by omega
            clear c2
            go_wp2
            go_ret2
            rw [pdVal_no H.out, H.out]
            exact ⟨rfl, Below.refl _ _⟩
        · have H := hide (pd_bad (most := most) Hmem.out (decide_eq_false (by omega) : isDig c = false))
          have c3 : c.toNat < 48 := by omega
          clear c1
          go_wp2
          go_ret2
          rw [pdVal_no H.out, H.out]
          exact ⟨rfl, Below.refl _ _⟩
      · have hk2 : l.length ≤ k := by omega
        have Ht := hide (take_all l k hk2)
        have Hd : Hid (l.all isDig = true) := by show _ = _; rw [← Ht.out]; exact hdig.out
        have hsm := val_small Hd.out (show l.length ≤ 12 by omega) (Nat.le_refl _)
        clear hdig
        go_wp2_with fail
        rw [Ht.out]
        refine (formatIntS (valOf l : Int) w (by omega)).mono ?_
        rintro e w2 ⟨rfl, b2⟩
        have B2 := hide b2
        have hz : fmtZ ((valOf l : Nat) : Int) = fmtN (valOf l) := fmtZ_nat _
        cases hpl : plainL l
        · have H := hide (pd_plain (most := most) hpl)
          have hne : fmtZ ((valOf l : Nat) : Int) ≠ l := by
            rw [hz]
            intro e
            have := (fmtN_valOf Hd.out (by omega)).1 e
            rw [hpl] at this
            cases this
          have hbe : (fmtZ ((valOf l : Nat) : Int) == l) = false := by simpa using hne
          clear hpl b2 hz
          go_wp2
          go_ret2
          rw [pdVal_no H.out, H.out]
          exact ⟨rfl, B2.out⟩
        · have H : Hid (pdOk most l = true) := pd_mk Hlen.out hpl Hd.out
          have heq : fmtZ ((valOf l : Nat) : Int) = l := by rw [hz]; exact (fmtN_valOf Hd.out (by omega)).2 hpl
          have hbe : (fmtZ ((valOf l : Nat) : Int) == l) = true := by simpa using heq
          clear hpl b2 hz heq
          go_wp2
          go_ret2
          rw [pdVal_yes H.out, H.out]
          exact ⟨rfl, B2.out⟩
  · have H := hide (pd_len hlen)
    cases l with
    | nil =>
      clear hlen h
      go_enter Tryd.func32, Tryd.ntmps32
      go_wp2
      go_ret2
      rw [pdVal_no H.out, H.out]
      exact ⟨rfl, Below.refl _ _⟩
    | cons c t =>
      have hlt : (c :: t : List UInt8).length = t.length + 1 := rfl
      have h3 : most < t.length + 1 := by omega
      obtain ⟨hk0, hg0⟩ := bget (c :: t) 0 c rfl
      have hc : ((c.toNat : Int) == 45) = false := by
        rw [beq_eq_false_iff_ne]
        intro e
        have h5 : c.toNat = 45 := by omega
        have : UInt8.ofNat c.toNat = UInt8.ofNat 45 := by rw [h5]
        exact h t (by rw [show c = 45 by simpa using this])
      clear hlen h
      go_enter Tryd.func32, Tryd.ntmps32
      go_wp2
      go_ret2
      rw [pdVal_no H.out, H.out]
      exact ⟨rfl, Below.refl _ _⟩

/-- With '-': not naught. -/
def ngOk (most : Nat) (t : List UInt8) : Bool := pdOk most t && decide (valOf t ≠ 0)
def ngVal (most : Nat) (t : List UInt8) : Int := if ngOk most t then -(valOf t : Int) else 0
theorem ng_pd {most : Nat} {t : List UInt8} (h : pdOk most t = false) : ngOk most t = false := by unfold ngOk; rw [h]; rfl
theorem ngVal_no {most : Nat} {t : List UInt8} (h : ngOk most t = false) : ngVal most t = 0 := by simp [ngVal, h]
theorem ngVal_yes {most : Nat} {t : List UInt8} (h : ngOk most t = true) : ngVal most t = -(valOf t : Int) := by simp [ngVal, h]
theorem fmtZ_neg {t : List UInt8} (h : t.all isDig = true) (h0 : 0 < t.length) : fmtZ (-(valOf t : Int)) = 45 :: t ↔ (plainL t = true ∧ valOf t ≠ 0) := by
  by_cases hv : valOf t = 0
  · rw [hv]
    constructor
    · intro e
      exfalso
      have : fmtZ (-((0 : Nat) : Int)) = [48] := rfl
      rw [this] at e
      have := (List.cons.inj e).1
      cases this
    · rintro ⟨_, h⟩
      exact absurd rfl h
  · have e : fmtZ (-(valOf t : Int)) = 45 :: dec (valOf t) := by
      unfold fmtZ
      rw [if_neg (by omega), if_pos (by omega), show (-(valOf t : Int)).natAbs = valOf t by omega]
    rw [e, ← fmtN_valOf h h0]
    unfold fmtN
    rw [if_neg hv]
    constructor
    · intro h1
      exact ⟨(List.cons.inj h1).2, hv⟩
    · rintro ⟨h1, _⟩
      rw [h1]
theorem l1ReadS_neg (t : List UInt8) (most : Nat) (hm : most ≤ 12) (w : World) (hl : t.length + 1 ≤ 9223372036854775807) :
    Calls Tryd.prog 32 #[.string ⟨(45 :: t).toArray⟩, .int .i64 (most : Int)] w fun e w' => RetNB w (ngVal most t) (ngOk most t) e w' := by
  have hlen0 : (45 :: t : List UInt8).length = t.length + 1 := rfl
  obtain ⟨hk0, hg0⟩ := bget (45 :: t) 0 45 rfl
  have hx : (⟨(45 :: t).toArray⟩ : ByteArray).extract 1 (t.length + 1) = ⟨t.toArray⟩ := by
    rw [cut_eq33]
    simp
  by_cases hlen : 1 ≤ t.length ∧ t.length ≤ most
  · have Hlen := hide hlen
    obtain ⟨h1, h2⟩ := hlen
    go_enter Tryd.func32, Tryd.ntmps32
    go_wp2
    go_loop [8, 9] (fun a i => ∃ k : Nat, k ≤ t.length ∧ i = .int .i64 k ∧ Hid ((t.take k).all isDig = true) ∧ a = .int .i64 (valOf (t.take k) : Int)) (fun _ i => t.length - (intOf i).toNat)
    case atStart => exact ⟨0, by omega, rfl, rfl, rfl⟩
    case round =>
      obtain ⟨k, hk, rfl, hdig, rfl⟩ := hrel
      by_cases hlt : k < t.length
      · obtain ⟨c, hc⟩ : ∃ c, t[k]? = some c := ⟨_, List.getElem?_eq_getElem hlt⟩
        have Hts := hide (take_snoc t k c hc)
        have Hmem := hide (List.mem_of_getElem? hc)
        obtain ⟨hk1, hgl⟩ := bget t k c hc
        have hsm := val_small hdig.out (show (t.take k).length ≤ 12 by rw [List.length_take]; omega) (Nat.le_refl _)
        have Hdig := hdig
        clear hc hdig
        by_cases c1 : 48 ≤ c.toNat
        · by_cases c2 : c.toNat ≤ 57
          · have hd : isDig c = true := decide_eq_true ⟨c1, c2⟩
            have Hn : Hid ((t.take (k + 1)).all isDig = true) := by show _ = _; rw [Hts.out, List.all_append, Hdig.out]; simp [hd]
            have Hv : Hid ((valOf (t.take (k + 1)) : Int) = 10 * (valOf (t.take k) : Int) + ((c.toNat : Int) - 48)) := by show _ = _; rw [Hts.out, valOf_snoc]; omega
            clear hd
            go_wp2
            go_round
            case rel => exact ⟨_, _, _, _, ⟨k + 1, by omega, by go_num, List.all_eq_true.1 Hn.out, rfl⟩, rfl, rfl, by rw [Hv.out], by go_num⟩
            case measure => simp [intOf]; omega
          · have H := hide (ng_pd (pd_bad (most := most) Hmem.out (decide_eq_false (by omega) : isDig c = false)))
            have c3 : 57 < c.toNat := by omega
            clear c2
            go_wp2
            go_ret2
            rw [ngVal_no H.out, H.out]
            exact ⟨rfl, Below.refl _ _⟩
        · have H := hide (ng_pd (pd_bad (most := most) Hmem.out (decide_eq_false (by omega) : isDig c = false)))
          have c3 : c.toNat < 48 := by omega
          clear c1
          go_wp2
          go_ret2
          rw [ngVal_no H.out, H.out]
          exact ⟨rfl, Below.refl _ _⟩
      · have hk2 : t.length ≤ k := by omega
        have Ht := hide (take_all t k hk2)
        have Hd : Hid (t.all isDig = true) := by show _ = _; rw [← Ht.out]; exact hdig.out
        have hsm := val_small Hd.out (show t.length ≤ 12 by omega) (Nat.le_refl _)
        clear hdig
        have hsm2 := hsm
        go_wp2_with fail
        rw [Ht.out]
        rw [IntWalk.wrap64_in (-(valOf t : Int)) (by omega)]
        refine (formatIntS (-(valOf t : Int)) w (by omega)).mono ?_
        rintro e w2 ⟨rfl, b2⟩
        have B2 := hide b2
        have hiff := fmtZ_neg Hd.out (by omega : 0 < t.length)
        by_cases hpl : plainL t = true ∧ valOf t ≠ 0
        · have H : Hid (ngOk most t = true) := by show _ = _; unfold ngOk; rw [pd_mk Hlen.out hpl.1 Hd.out, decide_eq_true hpl.2]; rfl
          have hbe : (fmtZ (-(valOf t : Int)) == 45 :: t) = true := by simpa using hiff.2 hpl
          clear hpl b2 hiff
          go_wp2
          go_ret2
          rw [ngVal_yes H.out, H.out]
          exact ⟨rfl, B2.out⟩
        · have H : Hid (ngOk most t = false) := by
            show _ = _
            unfold ngOk
            by_cases hv : valOf t = 0
            · rw [decide_eq_false (by simpa using hv)]; simp
            · have hp : plainL t = false := by
                cases hh : plainL t
                · rfl
                · exact absurd ⟨hh, hv⟩ hpl
              rw [pd_plain hp]; rfl
          have hbe : (fmtZ (-(valOf t : Int)) == 45 :: t) = false := by
            have : fmtZ (-(valOf t : Int)) ≠ 45 :: t := fun e => hpl (hiff.1 e)
            simpa using this
          clear hpl b2 hiff
          go_wp2
          go_ret2
          rw [ngVal_no H.out, H.out]
          exact ⟨rfl, B2.out⟩
  · have H := hide (ng_pd (pd_len hlen))
    rcases Nat.lt_or_ge t.length 1 with h | h
    · have h0 : t.length = 0 := by omega
      clear hlen h
      go_enter Tryd.func32, Tryd.ntmps32
      go_wp2
      go_ret2
      rw [ngVal_no H.out, H.out]
      exact ⟨rfl, Below.refl _ _⟩
    · have h3 : most < t.length := by omega
      clear hlen
      go_enter Tryd.func32, Tryd.ntmps32
      go_wp2
      go_ret2
      rw [ngVal_no H.out, H.out]
      exact ⟨rfl, Below.refl _ _⟩
end Go.Proofs.YtmkacjpjcfffmaaDoor
