/- Walks: sizes and the order of sets, a family's bit. -/
import Derived.Test.YtmkacjpjcfffmaaDoorW1
import Derived.Test.YtmkacjpjcfffmaaDoorMathSet
namespace Go.Proofs.YtmkacjpjcfffmaaDoor
open Go.RowKit

theorem ones64 (s : Nat) (hs : s < 64) (w : World) : Calls Tryd.prog 71 #[.int .u64 (s : Int)] w fun e w' => e = .returned (.int .i64 (pc s)) ∧ w = w' := by
  go_enter Tryd.func71, Tryd.ntmps71
  go_wp2
  go_ret
  refine ⟨ret_int ?_, rfl⟩
  clear w
  revert s
  decide +kernel

theorem and_one (j : Nat) (h : j < 9223372036854775808) : bits .and .i64 (j : Int) 1 = ((j % 2 : Nat) : Int) := by
  rw [show (1 : Int) = ((1 : Nat) : Int) from rfl, i64_and _ _ h (by omega), nat_mask1]
theorem l2SizeS (s : Int) (w : World) (h : s ≤ 9223372036854775807) : Calls Tryd.prog 45 #[.int .i64 s] w fun e w' => e = .returned (.int .i64 (pc s.toNat)) ∧ w = w' := by
  by_cases h0 : s ≤ 0
  · have H := hide (show pc s.toNat = 0 by rw [Int.toNat_of_nonpos h0]; rfl)
    go_enter Tryd.func45, Tryd.ntmps45
    go_wp2
    refine wp_loop_rounds 1 ?_
    rw [rounds_succ]
    go_wp2
    go_ret
    exact ⟨by rw [H.out]; rfl, rfl⟩
  · obtain ⟨m, rfl⟩ := Int.eq_ofNat_of_zero_le (show 0 ≤ s by omega)
    rw [Int.toNat_natCast]
    have hpm := pc_bits 63 m (by omega)
    go_enter Tryd.func45, Tryd.ntmps45
    go_wp2
    go_loop [3, 0] (fun n i => ∃ (j r : Nat), j ≤ m ∧ i = .int .i64 j ∧ n = .int .i64 r ∧ r ≤ pc m ∧ Hid (r + pc j = pc m)) (fun _ i => (intOf i).toNat)
    case atStart => exact ⟨m, 0, by omega, rfl, rfl, by omega, by simp [Hid]⟩
    case round =>
      obtain ⟨j, r, hj, rfl, rfl, hr, hp⟩ := hrel
      by_cases hlt : 0 < j
      · have hb := and_one j (by omega)
        have Hp := hide (pc_pos hlt)
        have hdv : j / 2 < j := Nat.div_lt_self (by omega) (by omega)
        have hj2 : j % 2 ≤ 1 := by omega
        go_wp2
        go_round
        case rel => exact ⟨j / 2, r + j % 2, by omega, by go_num, by go_num, by have := hp.out; rw [Hp.out] at this; omega, by have := hp.out; rw [Hp.out] at this; show _ = _; omega⟩
        case measure => simp [intOf]; omega
      · obtain rfl : j = 0 := by omega
        go_wp2
        go_ret
        exact ⟨ret_int (by have := hp.out; rw [pc_zero] at this; omega), rfl⟩

theorem bit_of (F s : Nat) (hF : F < 18446744073709551616) : (bits BinOp.and IntKind.u64 ((F : Int) / 2 ^ s) 1 == 1) = F.testBit s := by
  have e : ((F : Int) / 2 ^ s) = ((F / 2 ^ s : Nat) : Int) := by simp
  have hle : F / 2 ^ s ≤ F := Nat.div_le_self _ _
  rw [e, show (1 : Int) = ((1 : Nat) : Int) from rfl, u64_and_nat _ _ (by omega) (by omega), nat_mask1, Nat.testBit_eq_decide_div_mod_eq]
  generalize F / 2 ^ s % 2 = q
  by_cases hq : q = 1
  · simp [hq]
  · have h2 : ¬ ((q : Int) = 1) := by omega
    simp [hq, h2]
/-- A set's size, -1 of what is no set. -/
def sizeOf (s : Int) : Int := if 0 ≤ s ∧ s < 64 then (pc s.toNat : Int) else -1
theorem sizeOf_yes {s : Nat} (h : s < 64) : sizeOf (s : Int) = (pc s : Int) := by
  have : (0 : Int) ≤ s ∧ (s : Int) < 64 := by omega
  simp [sizeOf, this]
theorem sizeOf_no {s : Int} (h : ¬ (0 ≤ s ∧ s < 64)) : sizeOf s = -1 := by simp only [sizeOf, if_neg h]
theorem sizeOfI (s : Int) (w : World) : Calls Tryd.prog 57 #[.int .i64 s] w fun e w' => e = .returned (.int .i64 (sizeOf s)) ∧ w = w' := by
  by_cases hs : 0 ≤ s ∧ s < 64
  · obtain ⟨m, rfl⟩ := Int.eq_ofNat_of_zero_le hs.1
    have hm : m < 64 := by omega
    have h : isSetB 6 m = true := by rw [isSetB_six]; exact decide_eq_true hs
    have H := hide (sizeOf_yes hm)
    go_enter Tryd.func57, Tryd.ntmps57
    go_wp2_with (first | (go_at_call 46; refine (isSetI _ _ _).mono ?_; rintro e w' ⟨rfl, rfl⟩) | (go_at_call 71; refine (ones64 _ hm _).mono ?_; rintro e w' ⟨rfl, rfl⟩) | go_in)
    go_ret
    exact ⟨by rw [H.out]; rfl, rfl⟩
  · have h : isSetB 6 s = false := by rw [isSetB_six]; exact decide_eq_false hs
    have H := hide (sizeOf_no hs)
    clear hs
    go_enter Tryd.func57, Tryd.ntmps57
    go_wp2_with (go_at_call 46; refine (isSetI _ _ _).mono ?_; rintro e w' ⟨rfl, rfl⟩)
    go_ret
    exact ⟨by rw [H.out]; rfl, rfl⟩
/-- The order of any two ints by their bits. -/
def beforeI (a b : Int) : Bool := decide (pc a.toNat < pc b.toNat) || (decide (pc a.toNat = pc b.toNat) && decide (a < b))
theorem l2BeforeS (a b : Int) (w : World) (ha : a ≤ 9223372036854775807) (hb : b ≤ 9223372036854775807) : Calls Tryd.prog 35 #[.int .i64 a, .int .i64 b] w fun e w' => e = .returned (.bool (beforeI a b)) ∧ w = w' := by
  generalize hx : pc a.toNat = x
  generalize hy : pc b.toNat = y
  have Hx := hide hx
  have Hy := hide hy
  have H := hide (show beforeI a b = (decide (x < y) || (decide (x = y) && decide (a < b))) by rw [← hx, ← hy]; rfl)
  clear hx hy
  rcases Nat.lt_trichotomy x y with h | h | h
  · have Hr := hide (show (decide (x < y) || (decide (x = y) && decide (a < b))) = true by simp [h])
    go_enter Tryd.func35, Tryd.ntmps35
    go_wp2_with fail
    refine (l2SizeS _ _ ha).mono ?_
    rw [Hx.out]
    rintro e w' ⟨rfl, rfl⟩
    go_wp2_with fail
    refine (l2SizeS _ _ hb).mono ?_
    rw [Hy.out]
    rintro e w' ⟨rfl, rfl⟩
    go_wp2
    go_ret
    exact ⟨by rw [H.out, Hr.out]; rfl, rfl⟩
  · subst h
    have Hr := hide (show (decide (x < x) || (decide (x = x) && decide (a < b))) = decide (a < b) by simp)
    go_enter Tryd.func35, Tryd.ntmps35
    go_wp2_with fail
    refine (l2SizeS _ _ ha).mono ?_
    rw [Hx.out]
    rintro e w' ⟨rfl, rfl⟩
    go_wp2_with fail
    refine (l2SizeS _ _ hb).mono ?_
    rw [Hy.out]
    rintro e w' ⟨rfl, rfl⟩
    go_wp2
    go_ret
    exact ⟨by rw [H.out, Hr.out]; rfl, rfl⟩
  · have Hr := hide (show (decide (x < y) || (decide (x = y) && decide (a < b))) = false by simp; omega)
    have h3 : ((x : Int) == (y : Int)) = false := by simp; omega
    go_enter Tryd.func35, Tryd.ntmps35
    go_wp2_with fail
    refine (l2SizeS _ _ ha).mono ?_
    rw [Hx.out]
    rintro e w' ⟨rfl, rfl⟩
    go_wp2_with fail
    refine (l2SizeS _ _ hb).mono ?_
    rw [Hy.out]
    rintro e w' ⟨rfl, rfl⟩
    go_wp2
    go_ret
    exact ⟨ret_bool (by rw [H.out, Hr.out]; simp; omega), rfl⟩
end Go.Proofs.YtmkacjpjcfffmaaDoor
