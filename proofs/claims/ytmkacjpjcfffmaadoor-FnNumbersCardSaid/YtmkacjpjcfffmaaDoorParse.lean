/- Walks: ParseSet, in the program and in the reference. -/
import Derived.Test.YtmkacjpjcfffmaaDoorW1
import Derived.Test.YtmkacjpjcfffmaaDoorMathTxt
namespace Go.Proofs.YtmkacjpjcfffmaaDoor
open Go.RowKit

theorem or_pow (s j : Nat) (h : s < 2 ^ j) : s ||| 2 ^ j = s + 2 ^ j := by
  rw [Nat.or_comm, Nat.add_comm]
  have := Nat.two_pow_add_eq_or_of_lt h 1
  simpa using this.symm
theorem or_step (s j : Nat) (h : s < 2 ^ j) (hj : j ≤ 5) : bits .or .i64 (s : Int) (wrap64 (2 ^ j)) = ((s + 2 ^ j : Nat) : Int) := by
  have hp : 2 ^ j ≤ 32 := Nat.pow_le_pow_right (n := 2) (by omega) hj
  have e : wrap64 (2 ^ j) = ((2 ^ j : Nat) : Int) := by
    have : ((2 : Int) ^ j) = ((2 ^ j : Nat) : Int) := by simp
    rw [this]
    exact IntWalk.wrap64_in _ (by omega)
  rw [e, i64_or s (2 ^ j) (by omega) (by omega), or_pow s j h]
theorem pow_le32 {j : Nat} (h : j ≤ 5) : 2 ^ j ≤ 32 := Nat.pow_le_pow_right (n := 2) (by omega) h

/-- The tuple that ParseSet returns. -/
def PSet (l : List UInt8) (e : Ending) : Prop := e = .returned (.tuple #[.int .i64 ((parseSet l).1 : Int), .bool (parseSet l).2])
theorem PSet_mk {l : List UInt8} {n : Int} {m : Nat} {b : Bool} (h : parseSet l = (m, b)) (hn : n = (m : Int)) : PSet l (.returned (.tuple #[.int .i64 n, .bool b])) := by
  unfold PSet
  rw [h, hn]

theorem shr_zero (s j : Nat) (h : s < 2 ^ j) : (((s : Int) / 2 ^ j) != 0) = false := by
  have e : ((s : Int) / 2 ^ j) = ((s / 2 ^ j : Nat) : Int) := by simp
  rw [e, Nat.div_eq_of_lt h]
  rfl
theorem shr_pos (s j : Nat) (h : ¬ s < 2 ^ j) : (((s : Int) / 2 ^ j) != 0) = true := by
  have e : ((s : Int) / 2 ^ j) = ((s / 2 ^ j : Nat) : Int) := by simp
  have : 0 < s / 2 ^ j := Nat.div_pos (by omega) (Nat.pow_pos (by omega))
  rw [e]
  simp
  omega
theorem add_step (s j : Nat) (hs : s < 64) (hj : j ≤ 5) : wrap64 ((s : Int) + wrap64 (2 ^ j)) = ((s + 2 ^ j : Nat) : Int) := by
  have hp : 2 ^ j ≤ 32 := Nat.pow_le_pow_right (n := 2) (by omega) hj
  have e : ((2 : Int) ^ j) = ((2 ^ j : Nat) : Int) := by simp
  rw [e]
  generalize 2 ^ j = q at hp
  rw [IntWalk.wrap64_in (q : Int) (by omega), IntWalk.wrap64_in _ (by omega)]
  omega

end Go.Proofs.YtmkacjpjcfffmaaDoor
