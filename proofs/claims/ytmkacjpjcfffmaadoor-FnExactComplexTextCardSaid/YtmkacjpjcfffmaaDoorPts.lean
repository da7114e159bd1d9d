/- Walks: the points of a set, in the program and in the reference. -/
import Derived.Test.YtmkacjpjcfffmaaDoorW1
namespace Go.Proofs.YtmkacjpjcfffmaaDoor
open Go.RowKit

/-- The points below k of the set s. -/
def pts (s : Nat) (k : Nat) : List Int := ((List.range k).filter (fun i => s.testBit i)).map Int.ofNat
theorem pts_len (s k : Nat) : (pts s k).length ≤ k := by
  have := List.length_filter_le (fun i => s.testBit i) (List.range k)
  simpa [pts] using this
theorem pts_yes (s k : Nat) (h : s.testBit k = true) : pts s (k + 1) = pts s k ++ [(k : Int)] := by simp [pts, List.range_succ, h]
theorem pts_no (s k : Nat) (h : s.testBit k = false) : pts s (k + 1) = pts s k := by simp [pts, List.range_succ, h]
theorem bit_at (s k : Nat) (b : Bool) (hs : s < 9223372036854775808) (h : s.testBit k = b) : (bits BinOp.and IntKind.i64 ((s : Int) / 2 ^ k) 1 == 1) = b := by
  have e : ((s : Int) / 2 ^ k) = ((s / 2 ^ k : Nat) : Int) := by simp
  have hle : s / 2 ^ k ≤ s := Nat.div_le_self _ _
  rw [e, show (1 : Int) = ((1 : Nat) : Int) from rfl, i64_and _ _ (by omega) (by omega), nat_mask1, ← h, Nat.testBit_eq_decide_div_mod_eq]
  generalize s / 2 ^ k % 2 = q
  by_cases hq : q = 1
  · simp [hq]
  · have h2 : ¬ ((q : Int) = 1) := by omega
    simp [hq, h2]

/-- The points of s; of what is no set, none. -/
def ptsOf (s : Int) : List Int := if 0 ≤ s ∧ s < 64 then pts s.toNat 6 else []
theorem ptsOf_yes {s : Nat} (h : s < 64) : ptsOf s = pts s 6 := by simp [ptsOf]; omega
theorem ptsOf_no {s : Int} (h : ¬ (0 ≤ s ∧ s < 64)) : ptsOf s = [] := by simp [ptsOf, h]

theorem ptsOf_len (s : Int) : (ptsOf s).length ≤ 6 := by
  unfold ptsOf
  split
  · exact pts_len _ _
  · simp

theorem pointsOfI (s : Int) (w : World) : Calls Tryd.prog 48 #[.int .i64 s] w fun e w' => RetI 3 w (ptsOf s) e w' := by
  by_cases hs : 0 ≤ s ∧ s < 64
  · obtain ⟨h0, h1⟩ := hs
    obtain ⟨s, rfl⟩ := Int.eq_ofNat_of_zero_le h0
    have h2 : s < 64 := by omega
    have h : isSetB 6 s = true := by rw [isSetB_six]; exact decide_eq_true ⟨h0, h1⟩
    rw [ptsOf_yes h2]
    go_enter Tryd.func48, Tryd.ntmps48
    go_wp2_with (go_at_call 46; refine (isSetI _ _ _).mono ?_; rintro e w' ⟨rfl, rfl⟩)
    go_loopw [3, 4] (fun v i wr => ∃ k : Nat, k ≤ 6 ∧ i = .int .i64 k ∧ OwnV 3 wr w.heap.size v (ints (pts s k)) ∧ Below w.heap.size w wr) (fun _ i _ => 6 - (intOf i).toNat)
    case atStart => exact ⟨0, by omega, rfl, own_nil _ _, Below.refl _ _⟩
    case round =>
      obtain ⟨k, hk, rfl, hown, hb⟩ := hrel
      by_cases hlt : k < 6
      · have hl := pts_len s k
        cases hbit : s.testBit k
        · have hb2 := bit_at s k _ (by omega) hbit
          have hp := hide (pts_no s k hbit)
          clear hbit
          go_wp2
          go_roundw
          case rel => exact ⟨k + 1, by omega, by go_num, by rw [hp.out]; exact hown, hb⟩
          case measure => simp [intOf]; omega
        · have hb2 := bit_at s k _ (by omega) hbit
          have hp := hide (pts_yes s k hbit)
          clear hbit
          go_wp2_with (at_builtin; refine wpList_appI hown k Tryd.underlying24 infoI rfl _ _ rfl rfl rfl (by omega) hb.size ?_; intro v' w1 hown1 hb1 _)
          go_roundw
          case rel => exact ⟨k + 1, by omega, by go_num, by rw [hp.out]; exact hown1, hb.trans hb1⟩
          case measure => simp [intOf]; omega
      · obtain rfl : k = 6 := by omega
        go_wp2
        go_ret
        exact ⟨_, rfl, hown, hb⟩
  · have h : isSetB 6 s = false := by rw [isSetB_six]; exact decide_eq_false hs
    rw [ptsOf_no hs]
    go_enter Tryd.func48, Tryd.ntmps48
    go_wp2_with (go_at_call 46; refine (isSetI _ _ _).mono ?_; rintro e w' ⟨rfl, rfl⟩)
    go_ret
    exact ⟨_, rfl, own_nil _ _, Below.refl _ _⟩

end Go.Proofs.YtmkacjpjcfffmaaDoor
