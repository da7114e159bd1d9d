/- Walks: ParseInt in the program. -/
import Derived.Test.YtmkacjpjcfffmaaDoorW30
import Derived.Lib.Strings
namespace Go.Proofs.YtmkacjpjcfffmaaDoor
open Go.RowKit

def piOk (l : List UInt8) : Bool := match l with | 45 :: t => pdOk 12 t && decide (valOf t ≠ 0) | l => pdOk 12 l
def piVal (l : List UInt8) : Int := match l with | 45 :: t => if pdOk 12 t && decide (valOf t ≠ 0) then -(valOf t : Int) else 0 | l => pdVal 12 l
theorem cut_eq33 (l : List UInt8) (a b : Nat) : (⟨l.toArray⟩ : ByteArray).extract a b = ⟨((l.drop a).take (b - a)).toArray⟩ := by
  have := Lib.extract_eq (⟨l.toArray⟩ : ByteArray) a b
  simpa using this
theorem parseIntI_neg (t : List UInt8) (w : World) (hl : t.length + 1 ≤ 9223372036854775807) :
    Calls Tryd.prog 15 #[.string ⟨(45 :: t).toArray⟩] w fun e w' => e = .returned (.tuple #[.int .i64 (piVal (45 :: t)), .bool (piOk (45 :: t))]) ∧ w = w' := by
  have hlen : (45 :: t : List UInt8).length = t.length + 1 := rfl
  obtain ⟨hk0, hg0⟩ := bget (45 :: t) 0 45 rfl
  have hx : (⟨(45 :: t).toArray⟩ : ByteArray).extract 1 (t.length + 1) = ⟨t.toArray⟩ := by
    rw [cut_eq33]
    simp
  have hp := plainDigitsI t 12 (by omega) w (by omega)
  cases hok : pdOk 12 t
  · rw [hok] at hp
    have Hp := hide hp
    have Hok := hide hok
    clear hok hp
    go_enter Tryd.func15, Tryd.ntmps15
    go_wp2_with fail
    refine Calls.mono Hp.out ?_
    rintro e w' ⟨rfl, rfl⟩
    go_wp2
    go_ret2
    exact ⟨by simp [piVal, piOk, Hok.out], rfl⟩
  · have hv := pdVal_yes hok
    rw [hok, hv] at hp
    have hb : valOf t < 1000000000000 := by
      unfold pdOk at hok
      rw [Bool.and_eq_true, Bool.and_eq_true] at hok
      have h1 := of_decide_eq_true hok.1.1
      exact val_small hok.2 h1.2 (Nat.le_refl _)
    have Hp := hide hp
    have Hok := hide hok
    clear hok hp hv
    by_cases h0 : valOf t = 0
    · have hz : ((valOf t : Int) == 0) = true := by rw [beq_iff_eq]; omega
      have H0 := hide h0
      clear h0
      go_enter Tryd.func15, Tryd.ntmps15
      go_wp2_with fail
      refine Calls.mono Hp.out ?_
      rintro e w' ⟨rfl, rfl⟩
      go_wp2
      go_ret2
      exact ⟨by simp [piVal, piOk, Hok.out, H0.out], rfl⟩
    · have hz : ((valOf t : Int) == 0) = false := by rw [beq_eq_false_iff_ne]; omega
      have H0 := hide h0
      clear h0
      go_enter Tryd.func15, Tryd.ntmps15
      go_wp2_with fail
      refine Calls.mono Hp.out ?_
      rintro e w' ⟨rfl, rfl⟩
      go_wp2
      go_ret2
      exact ⟨by have h := H0.out; simp [piVal, piOk, Hok.out, h], rfl⟩
theorem parseIntI_pos (l : List UInt8) (w : World) (hl : l.length ≤ 9223372036854775807) (h : ∀ t, l ≠ 45 :: t) :
    Calls Tryd.prog 15 #[.string ⟨l.toArray⟩] w fun e w' => e = .returned (.tuple #[.int .i64 (pdVal 12 l), .bool (pdOk 12 l)]) ∧ w = w' := by
  cases l with
  | nil =>
    clear h
    have hp := plainDigitsI [] 12 (by omega) w hl
    cases hok : pdOk 12 []
    · have Hv := hide (pdVal_no hok)
      rw [hok, Hv.out] at hp
      have Hp := hide hp
      clear hok hp
      go_enter Tryd.func15, Tryd.ntmps15
      go_wp2_with fail
      refine Calls.mono Hp.out ?_
      rintro e w' ⟨rfl, rfl⟩
      go_wp2
      go_ret2
      rw [Hv.out]
      exact ⟨rfl, rfl⟩
    · rw [hok] at hp
      have Hp := hide hp
      clear hok hp
      go_enter Tryd.func15, Tryd.ntmps15
      go_wp2_with fail
      refine Calls.mono Hp.out ?_
      rintro e w' ⟨rfl, rfl⟩
      go_wp2
      go_ret2
      exact ⟨rfl, rfl⟩
  | cons c t =>
    have hlen : (c :: t : List UInt8).length = t.length + 1 := rfl
    obtain ⟨hk0, hg0⟩ := bget (c :: t) 0 c rfl
    have hc : ((c.toNat : Int) == 45) = false := by
      rw [beq_eq_false_iff_ne]
      intro e
      have h5 : c.toNat = 45 := by omega
      have : UInt8.ofNat c.toNat = UInt8.ofNat 45 := by rw [h5]
      exact h t (by rw [show c = 45 by simpa using this])
    clear h
    have hp := plainDigitsI (c :: t) 12 (by omega) w hl
    cases hok : pdOk 12 (c :: t)
    · have Hv := hide (pdVal_no hok)
      rw [hok, Hv.out] at hp
      have Hp := hide hp
      clear hok hp
      go_enter Tryd.func15, Tryd.ntmps15
      go_wp2_with fail
      refine Calls.mono Hp.out ?_
      rintro e w' ⟨rfl, rfl⟩
      go_wp2
      go_ret2
      rw [Hv.out]
      exact ⟨rfl, rfl⟩
    · rw [hok] at hp
      have Hp := hide hp
      clear hok hp
      go_enter Tryd.func15, Tryd.ntmps15
      go_wp2_with fail
      refine Calls.mono Hp.out ?_
      rintro e w' ⟨rfl, rfl⟩
      go_wp2
      go_ret2
      exact ⟨rfl, rfl⟩
end Go.Proofs.YtmkacjpjcfffmaaDoor
