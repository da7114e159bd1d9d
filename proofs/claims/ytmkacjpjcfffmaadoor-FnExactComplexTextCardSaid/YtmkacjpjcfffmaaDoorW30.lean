/- Walks: plainDigits, ParseNumber, ParseInt in the program. -/
import Derived.Test.YtmkacjpjcfffmaaDoorW1
import Derived.Test.YtmkacjpjcfffmaaDoorMathRead
namespace Go.Proofs.YtmkacjpjcfffmaaDoor
open Go.RowKit

def pdOk (most : Nat) (l : List UInt8) : Bool := decide (1 ≤ l.length ∧ l.length ≤ most) && plainL l && l.all isDig
def pdVal (most : Nat) (l : List UInt8) : Int := if pdOk most l then (valOf l : Int) else 0
theorem pd_len {most : Nat} {l : List UInt8} (h : ¬ (1 ≤ l.length ∧ l.length ≤ most)) : pdOk most l = false := by unfold pdOk; rw [decide_eq_false h]; rfl
theorem pd_plain {most : Nat} {l : List UInt8} (h : plainL l = false) : pdOk most l = false := by unfold pdOk; rw [h]; simp
theorem pd_bad {most : Nat} {l : List UInt8} {c : UInt8} (hc : c ∈ l) (h : isDig c = false) : pdOk most l = false := by
  unfold pdOk
  rw [List.all_eq_false.2 ⟨c, hc, by simp [h]⟩]
  simp
theorem pd_mk {most : Nat} {l : List UInt8} (h : 1 ≤ l.length ∧ l.length ≤ most) (hp : plainL l = true) (ha : l.all isDig = true) : pdOk most l = true := by
  unfold pdOk
  rw [decide_eq_true h, hp, ha]
  rfl
theorem pdVal_no {most : Nat} {l : List UInt8} (h : pdOk most l = false) : pdVal most l = 0 := by simp [pdVal, h]
theorem pdVal_yes {most : Nat} {l : List UInt8} (h : pdOk most l = true) : pdVal most l = (valOf l : Int) := by simp [pdVal, h]
theorem val_small {l : List UInt8} {k : Nat} (h : l.all isDig = true) (hl : l.length ≤ k) (hk : k ≤ 12) : valOf l < 1000000000000 := by
  have h1 := valOf_bound l h
  have h2 := Nat.pow_le_pow_right (n := 10) (by omega) (show l.length ≤ 12 by omega)
  omega

theorem plainDigitsI (l : List UInt8) (most : Nat) (hm : most ≤ 12) (w : World) (hl : l.length ≤ 9223372036854775807) :
    Calls Tryd.prog 29 #[.string ⟨l.toArray⟩, .int .i64 (most : Int)] w fun e w' => e = .returned (.tuple #[.int .i64 (pdVal most l), .bool (pdOk most l)]) ∧ w = w' := by
  by_cases hlen : 1 ≤ l.length ∧ l.length ≤ most
  · have Hlen := hide hlen
    obtain ⟨h1, h2⟩ := hlen
    have hne0 : ((l.length : Int) == 0) = false := by rw [beq_eq_false_iff_ne]; omega
    obtain ⟨c0, hc0⟩ : ∃ c, l[0]? = some c := ⟨_, List.getElem?_eq_getElem (by omega)⟩
    obtain ⟨hk0, hg0⟩ := bget l 0 c0 hc0
    have Hc0 := hide hc0
    clear hc0
    cases hpl : plainL l
    · have H := hide (pd_plain (most := most) hpl)
      have hgt : 1 < l.length := by
        unfold plainL at hpl
        rw [Bool.or_eq_false_iff] at hpl
        have := of_decide_eq_false hpl.1
        omega
      have hc48 : c0.toNat = 48 := by
        unfold plainL at hpl
        rw [Bool.or_eq_false_iff] at hpl
        have h3 := of_decide_eq_false hpl.2
        rw [List.head?_eq_getElem?, Hc0.out] at h3
        have : c0 = 48 := by simpa using h3
        rw [this]
        rfl
      have hb48 : ((c0.toNat : Int) == 48) = true := by rw [beq_iff_eq]; omega
      clear hpl
      go_enter Tryd.func29, Tryd.ntmps29
      go_wp2
      go_ret2
      rw [pdVal_no H.out, H.out]
      exact ⟨rfl, rfl⟩
    · have Hpl := hide hpl
      by_cases hgt : 1 < l.length
      · have hb48 : ((c0.toNat : Int) == 48) = false := by
          unfold plainL at hpl
          rw [Bool.or_eq_true] at hpl
          rcases hpl with h | h
          · have := of_decide_eq_true h
            omega
          · have h3 := of_decide_eq_true h
            rw [List.head?_eq_getElem?, Hc0.out] at h3
            have h4 : c0 ≠ 48 := by simpa using h3
            have h5 : c0.toNat ≠ 48 := fun e => h4 (by
              have : UInt8.ofNat c0.toNat = UInt8.ofNat 48 := by rw [e]
              simpa using this)
            rw [beq_eq_false_iff_ne]; omega
        clear hpl
        go_enter Tryd.func29, Tryd.ntmps29
        go_wp2
        go_loop [6, 7] (fun a i => ∃ k : Nat, k ≤ l.length ∧ i = .int .i64 k ∧ (l.take k).all isDig = true ∧ a = .int .i64 (valOf (l.take k) : Int)) (fun _ i => l.length - (intOf i).toNat)
        case atStart => exact ⟨0, by omega, rfl, rfl, rfl⟩
        case round =>
          obtain ⟨k, hk, rfl, hdig, rfl⟩ := hrel
          by_cases hlt : k < l.length
          · obtain ⟨c, hc⟩ : ∃ c, l[k]? = some c := ⟨_, List.getElem?_eq_getElem hlt⟩
            have Hts := hide (take_snoc l k c hc)
            have Hmem := hide (List.mem_of_getElem? hc)
            obtain ⟨hk1, hgl⟩ := bget l k c hc
            have hsm := val_small hdig (show (l.take k).length ≤ 12 by rw [List.length_take]; omega) (Nat.le_refl _)
            have Hdig := hide hdig
            clear hc hdig
            by_cases c1 : 48 ≤ c.toNat
            · by_cases c2 : c.toNat ≤ 57
              · have hd : isDig c = true := decide_eq_true ⟨c1, c2⟩
                have Hn : Hid ((l.take (k + 1)).all isDig = true) := by show _ = _; rw [Hts.out, List.all_append, Hdig.out]; simp [hd]
                have Hv : Hid ((valOf (l.take (k + 1)) : Int) = (valOf (l.take k) : Int) * 10 + ((c.toNat : Int) - 48)) := by show _ = _; rw [Hts.out, valOf_snoc]; omega
                clear hd
                go_wp2
                go_round
                case rel => exact ⟨k + 1, by omega, by go_num, Hn.out, by rw [Hv.out]⟩
                case measure => simp [intOf]; omega
              · have H := hide (pd_bad (most := most) Hmem.out (decide_eq_false (by omega) : isDig c = false))
                have c3 : 57 < c.toNat := by omega
                clear c2
                go_wp2
                go_ret2
                rw [pdVal_no H.out, H.out]
                exact ⟨rfl, rfl⟩
            · have H := hide (pd_bad (most := most) Hmem.out (decide_eq_false (by omega) : isDig c = false))
              have c3 : c.toNat < 48 := by omega
              clear c1
              go_wp2
              go_ret2
              rw [pdVal_no H.out, H.out]
              exact ⟨rfl, rfl⟩
          · have hk2 : l.length ≤ k := by omega
            have Ht := hide (take_all l k hk2)
            have H : Hid (pdOk most l = true) := pd_mk Hlen.out Hpl.out (by have := hdig; rwa [Ht.out] at this)
            clear hdig
            go_wp2
            go_ret2
            rw [pdVal_yes H.out, H.out, Ht.out]
            exact ⟨rfl, rfl⟩

      · have hle : l.length ≤ 1 := by omega
        clear hpl hgt
        go_enter Tryd.func29, Tryd.ntmps29
        go_wp2
        go_loop [6, 7] (fun a i => ∃ k : Nat, k ≤ l.length ∧ i = .int .i64 k ∧ (l.take k).all isDig = true ∧ a = .int .i64 (valOf (l.take k) : Int)) (fun _ i => l.length - (intOf i).toNat)
        case atStart => exact ⟨0, by omega, rfl, rfl, rfl⟩
        case round =>
          obtain ⟨k, hk, rfl, hdig, rfl⟩ := hrel
          by_cases hlt : k < l.length
          · obtain ⟨c, hc⟩ : ∃ c, l[k]? = some c := ⟨_, List.getElem?_eq_getElem hlt⟩
            have Hts := hide (take_snoc l k c hc)
            have Hmem := hide (List.mem_of_getElem? hc)
            obtain ⟨hk1, hgl⟩ := bget l k c hc
            have hsm := val_small hdig (show (l.take k).length ≤ 12 by rw [List.length_take]; omega) (Nat.le_refl _)
            have Hdig := hide hdig
            clear hc hdig
            by_cases c1 : 48 ≤ c.toNat
            · by_cases c2 : c.toNat ≤ 57
              · have hd : isDig c = true := decide_eq_true ⟨c1, c2⟩
                have Hn : Hid ((l.take (k + 1)).all isDig = true) := by show _ = _; rw [Hts.out, List.all_append, Hdig.out]; simp [hd]
                have Hv : Hid ((valOf (l.take (k + 1)) : Int) = (valOf (l.take k) : Int) * 10 + ((c.toNat : Int) - 48)) := by show _ = _; rw [Hts.out, valOf_snoc]; omega
                clear hd
                go_wp2
                go_round
                case rel => exact ⟨k + 1, by omega, by go_num, Hn.out, by rw [Hv.out]⟩
                case measure => simp [intOf]; omega
              · have H := hide (pd_bad (most := most) Hmem.out (decide_eq_false (by omega) : isDig c = false))
                have c3 : 57 < c.toNat := by omega
                clear c2
                go_wp2
                go_ret2
                rw [pdVal_no H.out, H.out]
                exact ⟨rfl, rfl⟩
            · have H := hide (pd_bad (most := most) Hmem.out (decide_eq_false (by omega) : isDig c = false))
              have c3 : c.toNat < 48 := by omega
              clear c1
              go_wp2
              go_ret2
              rw [pdVal_no H.out, H.out]
              exact ⟨rfl, rfl⟩
          · have hk2 : l.length ≤ k := by omega
            have Ht := hide (take_all l k hk2)
            have H : Hid (pdOk most l = true) := pd_mk Hlen.out Hpl.out (by have := hdig; rwa [Ht.out] at this)
            clear hdig
            go_wp2
            go_ret2
            rw [pdVal_yes H.out, H.out, Ht.out]
            exact ⟨rfl, rfl⟩
  · have H := hide (pd_len hlen)
    rcases Nat.lt_or_ge l.length 1 with h | h
    · have h0 : l.length = 0 := by omega
      have hne0 : ((l.length : Int) == 0) = true := by rw [beq_iff_eq]; omega
      clear hlen h h0
      go_enter Tryd.func29, Tryd.ntmps29
      go_wp2
      go_ret2
      rw [pdVal_no H.out, H.out]
      exact ⟨rfl, rfl⟩
    · have hne0 : ((l.length : Int) == 0) = false := by rw [beq_eq_false_iff_ne]; omega
      have h3 : most < l.length := by omega
      clear hlen
      go_enter Tryd.func29, Tryd.ntmps29
      go_wp2
      go_ret2
      rw [pdVal_no H.out, H.out]
      exact ⟨rfl, rfl⟩
end Go.Proofs.YtmkacjpjcfffmaaDoor
