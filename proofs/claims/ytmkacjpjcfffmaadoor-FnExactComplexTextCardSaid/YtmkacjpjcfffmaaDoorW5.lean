/- Walks: families of sets as numbers. -/
import Derived.Test.YtmkacjpjcfffmaaDoorW4
namespace Go.Proofs.YtmkacjpjcfffmaaDoor
open Go.RowKit

/-- The order of two sets; of what is no set, false. -/
def beforeSet (a b : Int) : Bool := decide (0 ≤ a ∧ a < 64) && decide (0 ≤ b ∧ b < 64) && beforeI a b
theorem beforeSet_yes {a b : Int} (ha : 0 ≤ a ∧ a < 64) (hb : 0 ≤ b ∧ b < 64) : beforeSet a b = beforeI a b := by simp [beforeSet, ha, hb]
theorem beforeSet_no1 {a b : Int} (ha : ¬ (0 ≤ a ∧ a < 64)) : beforeSet a b = false := by unfold beforeSet; rw [decide_eq_false ha]; rfl
theorem beforeSet_no2 {a b : Int} (hb : ¬ (0 ≤ b ∧ b < 64)) : beforeSet a b = false := by unfold beforeSet; rw [decide_eq_false hb]; simp

theorem beforeSetI (a b : Int) (w : World) : Calls Tryd.prog 47 #[.int .i64 a, .int .i64 b] w fun e w' => e = .returned (.bool (beforeSet a b)) ∧ w = w' := by
  by_cases ha : 0 ≤ a ∧ a < 64
  · have h1 : isSetB 6 a = true := by rw [isSetB_six]; exact decide_eq_true ha
    by_cases hb : 0 ≤ b ∧ b < 64
    · have h2 : isSetB 6 b = true := by rw [isSetB_six]; exact decide_eq_true hb
      obtain ⟨x, rfl⟩ := Int.eq_ofNat_of_zero_le ha.1
      obtain ⟨y, rfl⟩ := Int.eq_ofNat_of_zero_le hb.1
      have H := hide (show beforeSet (x : Int) (y : Int) = (decide (pc x < pc y) || (decide (pc x = pc y) && decide (x < y))) by
        rw [beforeSet_yes ha hb]
        simp [beforeI])
      have sx := sizeOf_yes (s := x) (by omega)
      have sy := sizeOf_yes (s := y) (by omega)
      generalize pc x = p at H sx
      generalize pc y = q at H sy
      by_cases hpq : p = q
      · subst hpq
        have hne : ((p : Int) != (p : Int)) = false := by simp
        go_enter Tryd.func47, Tryd.ntmps47
        go_wp2_with (first | (go_at_call 46; refine (isSetI _ _ _).mono ?_; rintro e w' ⟨rfl, rfl⟩) | (go_at_call 57; refine (sizeOfI _ _).mono ?_; rintro e w' ⟨rfl, rfl⟩))
        go_ret
        exact ⟨ret_bool (by rw [H.out]; simp), rfl⟩
      · have hne : ((p : Int) != (q : Int)) = true := by simp; omega
        go_enter Tryd.func47, Tryd.ntmps47
        go_wp2_with (first | (go_at_call 46; refine (isSetI _ _ _).mono ?_; rintro e w' ⟨rfl, rfl⟩) | (go_at_call 57; refine (sizeOfI _ _).mono ?_; rintro e w' ⟨rfl, rfl⟩))
        go_ret
        exact ⟨ret_bool (by rw [H.out]; simp [hpq]), rfl⟩
    · have h2 : isSetB 6 b = false := by rw [isSetB_six]; exact decide_eq_false hb
      have H := hide (beforeSet_no2 (a := a) hb)
      clear ha hb
      go_enter Tryd.func47, Tryd.ntmps47
      go_wp2_with (go_at_call 46; refine (isSetI _ _ _).mono ?_; rintro e w' ⟨rfl, rfl⟩)
      go_ret
      exact ⟨ret_bool H.out.symm, rfl⟩
  · have h1 : isSetB 6 a = false := by rw [isSetB_six]; exact decide_eq_false ha
    have H := hide (beforeSet_no1 (b := b) ha)
    clear ha
    go_enter Tryd.func47, Tryd.ntmps47
    go_wp2_with (go_at_call 46; refine (isSetI _ _ _).mono ?_; rintro e w' ⟨rfl, rfl⟩)
    go_ret
    exact ⟨ret_bool H.out.symm, rfl⟩

theorem or_fam (P : Nat → Bool) (m : Nat) (hm : m < 64) : bits BinOp.or IntKind.u64 (fam P : Int) (IntKind.u64.wrap (2 ^ m)) = ((fam (fun s => P s || s == m) : Nat) : Int) := by
  have hp : 2 ^ m < 18446744073709551616 := Nat.pow_lt_pow_right (n := 64) (by omega) hm
  have e : ((2 : Int) ^ m) = ((2 ^ m : Nat) : Int) := by simp
  have hf := fam_lt P
  rw [← fam_add P m hm, e]
  generalize 2 ^ m = q at hp
  rw [IntWalk.u64_in _ (by omega), u64_or_nat _ _ hf hp]

/-- The call returns a family's number and a bool. -/
def RetFB (w : World) (F : Nat) (b : Bool) (e : Ending) (w' : World) : Prop := e = .returned (.tuple #[.int .u64 (F : Int), .bool b]) ∧ w = w'
theorem and_pred (t s : Nat) (h0 : 0 < t) (ht : t < 64) (hs : s < 64) : bits BinOp.and IntKind.i64 ((t : Int) - 1) (s : Int) = (((t - 1) &&& s : Nat) : Int) := by
  rw [← i64_and (t - 1) s (by omega) (by omega)]
  congr 1
  omega
end Go.Proofs.YtmkacjpjcfffmaaDoor
