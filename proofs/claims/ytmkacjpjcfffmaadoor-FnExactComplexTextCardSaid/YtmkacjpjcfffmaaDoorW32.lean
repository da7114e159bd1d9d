/- Walks: FormatInt in the reference (from naught on; below naught: to be done). -/
import Derived.Test.YtmkacjpjcfffmaaDoorW3
import Derived.Test.YtmkacjpjcfffmaaDoorMathRead
namespace Go.Proofs.YtmkacjpjcfffmaaDoor
open Go.RowKit

theorem dec_len_pow : ∀ (d m : Nat), m < 10 ^ d → (dec m).length ≤ d
  | 0, m, h => by
    obtain rfl : m = 0 := by omega
    rw [dec_zero]
    exact Nat.le_refl _
  | d + 1, m, h => by
    by_cases h0 : 0 < m
    · have ih := dec_len_pow d (m / 10) (by rw [Nat.pow_succ] at h; omega)
      rw [dec_pos h0, List.length_append]
      simp only [List.length_cons, List.length_nil]
      omega
    · obtain rfl : m = 0 := by omega
      rw [dec_zero]
      exact Nat.zero_le _
theorem formatPosS (m : Nat) (w : World) (h0 : 0 < m) (hk : m ≤ 9223372036854775807) : Calls Tryd.prog 6 #[.int .i64 (m : Int)] w fun e w' => RetS w (dec m) e w' := by
  have hcv := conv1 (P := Tryd.prog) (src := 33) (dst := 9) Tryd.underlying33 Tryd.underlying5 Tryd.underlying9
  have hne : ((m : Int) == 0) = false := by rw [beq_eq_false_iff_ne]; omega
  go_enter Tryd.func6, Tryd.ntmps6
  go_wp2
  go_loopw [0, 4, 5] (fun i t _ wr => ∃ (j : Nat) (r : List UInt8), j ≤ m ∧ i = .int .i64 j ∧ t = .string ⟨r.toArray⟩ ∧ Hid (dec m = dec j ++ r) ∧ Below w.heap.size w wr) (fun i _ _ _ => (intOf i).toNat)
  case atStart => exact ⟨m, [], by omega, rfl, rfl, by simp [Hid], Below.refl _ _⟩
  case round =>
    obtain ⟨j, r, hj, rfl, rfl, hd, hb⟩ := hrel
    by_cases hlt : 0 < j
    · have Hd : Hid (dec m = dec (j / 10) ++ (digit (j % 10) :: r)) := by rw [hd.out, dec_pos hlt]; simp [Hid]
      have hnz : ((j : Int) != 0) = true := by rw [bne_iff_ne]; omega
      have hrl : r.length < 9223372036854775807 := by
        have h1 := congrArg List.length hd.out
        have h2 := dec_len_pow 19 m (by omega)
        rw [dec_pos hlt] at h1
        simp at h1
        omega
      have hdv : j / 10 < j := Nat.div_lt_self (by omega) (by omega)
      have hmn : 0 ≤ (j : Int) % 10 := by omega
      have hml : decide ((j : Int) % 10 < 0) = false := decide_eq_false (by omega)
      go_wp2
      go_roundw
      case rel =>
        refine ⟨j / 10, digit (j % 10) :: r, by omega, by go_num, ?_, Hd, hb.alloc hb.size _⟩
        rw [str_cons, digit_add]
      case measure => simp [intOf]; omega
    · obtain rfl : j = 0 := by omega
      go_wp2
      go_ret
      refine ⟨?_, hb⟩
      rw [hd.out, dec_zero, List.nil_append]
      rfl

theorem formatNegS (m : Nat) (w : World) (h0 : 0 < m) (hk : m ≤ 9223372036854775808) : Calls Tryd.prog 6 #[.int .i64 (-(m : Int))] w fun e w' => RetS w (45 :: dec m) e w' := by
  have hcv := conv1 (P := Tryd.prog) (src := 33) (dst := 9) Tryd.underlying33 Tryd.underlying5 Tryd.underlying9
  have hne : ((-(m : Int)) == 0) = false := by rw [beq_eq_false_iff_ne]; omega
  have hlt0 : decide (-(m : Int) < 0) = true := decide_eq_true (by omega)
  go_enter Tryd.func6, Tryd.ntmps6
  go_wp2
  go_loopw [0, 4, 5] (fun i t _ wr => ∃ (j : Nat) (r : List UInt8), j ≤ m ∧ i = .int .i64 (-(j : Int)) ∧ t = .string ⟨r.toArray⟩ ∧ Hid (dec m = dec j ++ r) ∧ Below w.heap.size w wr) (fun i _ _ _ => (intOf i).natAbs)
  case atStart => exact ⟨m, [], by omega, rfl, rfl, by simp [Hid], Below.refl _ _⟩
  case round =>
    obtain ⟨j, r, hj, rfl, rfl, hd, hb⟩ := hrel
    by_cases hlt : 0 < j
    · have Hd : Hid (dec m = dec (j / 10) ++ (digit (j % 10) :: r)) := by rw [hd.out, dec_pos hlt]; simp [Hid]
      have hnz : ((-(j : Int)) != 0) = true := by rw [bne_iff_ne]; omega
      have hrl : r.length < 9223372036854775807 := by
        have h1 := congrArg List.length hd.out
        have h2 := dec_len_pow 19 m (by omega)
        rw [dec_pos hlt] at h1
        simp at h1
        omega
      have hdv : j / 10 < j := Nat.div_lt_self (by omega) (by omega)
      have htm : (-(j : Int)).tmod 10 = -((j % 10 : Nat) : Int) := by rw [Int.neg_tmod]; rfl
      have htd : (-(j : Int)).tdiv 10 = -((j / 10 : Nat) : Int) := by rw [Int.neg_tdiv]; rfl
      by_cases hd0 : j % 10 = 0
      · have hml : decide (-((j % 10 : Nat) : Int) < 0) = false := decide_eq_false (by omega)
        go_wp2
        go_roundw
        case rel =>
          refine ⟨j / 10, digit (j % 10) :: r, by omega, by go_num, ?_, Hd, hb.alloc hb.size _⟩
          rw [str_cons, hd0]
          rfl
        case measure => simp [intOf]; omega
      · have hml : decide (-((j % 10 : Nat) : Int) < 0) = true := decide_eq_true (by omega)
        go_wp2
        go_roundw
        case rel =>
          refine ⟨j / 10, digit (j % 10) :: r, by omega, by go_num, ?_, Hd, hb.alloc hb.size _⟩
          rw [str_cons, digit_add]
        case measure => simp [intOf]; omega
    · obtain rfl : j = 0 := by omega
      have hrl : r.length ≤ 9223372036854775806 := by
        have h1 := congrArg List.length hd.out
        have h2 := dec_len_pow 19 m (by omega)
        rw [dec_zero, List.nil_append] at h1
        omega
      go_wp2
      go_ret
      refine ⟨?_, hb⟩
      rw [hd.out, dec_zero, List.nil_append, ← str_cons]
      rfl

theorem formatIntS (n : Int) (w : World) (hk : -9223372036854775808 ≤ n ∧ n ≤ 9223372036854775807) : Calls Tryd.prog 6 #[.int .i64 n] w fun e w' => RetS w (fmtZ n) e w' := by
  rcases Int.lt_trichotomy n 0 with h | h | h
  · obtain ⟨m, rfl⟩ : ∃ m : Nat, n = -(m : Int) := ⟨n.natAbs, by omega⟩
    have e : fmtZ (-(m : Int)) = 45 :: dec m := by
      unfold fmtZ
      rw [if_neg (by omega), if_pos h, show (-(m : Int)).natAbs = m by omega]
    rw [e]
    exact formatNegS m w (by omega) (by omega)
  · subst h
    go_enter Tryd.func6, Tryd.ntmps6
    go_wp2
    go_ret
    exact ⟨rfl, Below.refl _ _⟩
  · obtain ⟨m, rfl⟩ := Int.eq_ofNat_of_zero_le (by omega : 0 ≤ n)
    have e : fmtZ (m : Int) = dec m := by
      unfold fmtZ
      rw [if_neg (by omega), if_neg (by omega), Int.natAbs_natCast]
    rw [e]
    exact formatPosS m w (by omega) (by omega)
end Go.Proofs.YtmkacjpjcfffmaaDoor
