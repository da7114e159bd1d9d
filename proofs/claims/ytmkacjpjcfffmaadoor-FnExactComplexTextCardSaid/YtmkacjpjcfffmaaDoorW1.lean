/- Walks: small functions on numbers and sets. -/
import Derived.Test.YtmkacjpjcfffmaaDoorRows
import Derived.Test.YtmkacjpjcfffmaaDoorBase
namespace Go.Proofs.YtmkacjpjcfffmaaDoor
open Go.RowKit

theorem infoI : (Tryd.prog.info? 3).map (fun i => (i.zero, i.size, i.bytes)) = some (some (.int .i64 0), 1, 8) := by kernel_rfl

/-- s is a set of n points. -/
def isSetB (n s : Int) : Bool := decide (0 ≤ n ∧ n ≤ 6 ∧ 0 ≤ s ∧ s < 2 ^ n.toNat)
theorem isSetB_yes {n s : Int} (h : isSetB n s = true) : 0 ≤ n ∧ n ≤ 6 ∧ 0 ≤ s ∧ s < 2 ^ n.toNat := of_decide_eq_true h
theorem isSetB_mk {n s : Int} (h : 0 ≤ n ∧ n ≤ 6 ∧ 0 ≤ s ∧ s < 2 ^ n.toNat) : isSetB n s = true := decide_eq_true h
theorem isSetB_no {n s : Int} (h : ¬ (0 ≤ n ∧ n ≤ 6 ∧ 0 ≤ s ∧ s < 2 ^ n.toNat)) : isSetB n s = false := decide_eq_false h
theorem two_pow_le {n : Int} (h0 : 0 ≤ n) (h : n ≤ 6) : (1 : Int) ≤ 2 ^ n.toNat ∧ (2 : Int) ^ n.toNat ≤ 64 := by
  obtain ⟨k, rfl⟩ := Int.eq_ofNat_of_zero_le h0
  have : k ≤ 6 := by omega
  rw [Int.toNat_natCast]
  match k, this with
  | 0, _ | 1, _ | 2, _ | 3, _ | 4, _ | 5, _ | 6, _ => decide
theorem isSetB_six {s : Int} : isSetB 6 s = decide (0 ≤ s ∧ s < 64) := by
  simp [isSetB]

theorem isSetI (n s : Int) (w : World) :
    Calls Tryd.prog 46 #[.int .i64 n, .int .i64 s] w fun e w' => e = .returned (.bool (isSetB n s)) ∧ w = w' := by
  by_cases h0 : 0 ≤ n
  · by_cases h1 : n ≤ 6
    · obtain ⟨a, b⟩ := two_pow_le h0 h1
      by_cases h2 : 0 ≤ s
      · by_cases h3 : s < 2 ^ n.toNat
        · have H := hide (isSetB_mk ⟨h0, h1, h2, h3⟩)
          go_enter Tryd.func46, Tryd.ntmps46
          go_wp2
          go_ret
          exact ⟨ret_bool H.out.symm, rfl⟩
        · have H := hide (isSetB_no (n := n) (s := s) (fun h => h3 h.2.2.2))
          go_enter Tryd.func46, Tryd.ntmps46
          go_wp2
          go_ret
          exact ⟨ret_bool H.out.symm, rfl⟩
      · have H := hide (isSetB_no (n := n) (s := s) (fun h => h2 h.2.2.1))
        go_enter Tryd.func46, Tryd.ntmps46
        go_wp2
        go_ret
        exact ⟨ret_bool H.out.symm, rfl⟩
    · have H := hide (isSetB_no (n := n) (s := s) (fun h => h1 h.2.1))
      go_enter Tryd.func46, Tryd.ntmps46
      go_wp2
      go_ret
      exact ⟨ret_bool H.out.symm, rfl⟩
  · have H := hide (isSetB_no (n := n) (s := s) (fun h => h0 h.1))
    go_enter Tryd.func46, Tryd.ntmps46
    go_wp2
    go_ret
    exact ⟨ret_bool H.out.symm, rfl⟩

/-- x lies between lo and hi. -/
def inB (x lo hi : Int) : Bool := decide (lo ≤ x ∧ x ≤ hi)
theorem inB_yes {x lo hi : Int} (h : inB x lo hi = true) : lo ≤ x ∧ x ≤ hi := of_decide_eq_true h
theorem inB_mk {x lo hi : Int} (h : lo ≤ x ∧ x ≤ hi) : inB x lo hi = true := decide_eq_true h
theorem inB_no {x lo hi : Int} (h : ¬ (lo ≤ x ∧ x ≤ hi)) : inB x lo hi = false := decide_eq_false h
theorem l1InS (x lo hi : Int) (w : World) :
    Calls Tryd.prog 36 #[.int .i64 x, .int .i64 lo, .int .i64 hi] w fun e w' => e = .returned (.bool (inB x lo hi)) ∧ w = w' := by
  by_cases h : lo ≤ x
  · have H := hide (show inB x lo hi = decide (x ≤ hi) by simp [inB, h])
    go_enter Tryd.func36, Tryd.ntmps36
    go_wp2
    go_ret
    exact ⟨ret_bool H.out.symm, rfl⟩
  · have H := hide (inB_no (x := x) (lo := lo) (hi := hi) (fun h' => h h'.1))
    go_enter Tryd.func36, Tryd.ntmps36
    go_wp2
    go_ret
    exact ⟨ret_bool H.out.symm, rfl⟩

theorem isSetS (n s : Int) (w : World) :
    Calls Tryd.prog 34 #[.int .i64 n, .int .i64 s] w fun e w' => e = .returned (.bool (isSetB n s)) ∧ w = w' := by
  by_cases hn : 0 ≤ n ∧ n ≤ 6
  · obtain ⟨h0, h1⟩ := hn
    obtain ⟨a, b⟩ := two_pow_le h0 h1
    have hin := inB_mk (x := n) ⟨h0, h1⟩
    have H := hide (show isSetB n s = inB s 0 (2 ^ n.toNat - 1) by
      unfold isSetB inB
      apply decide_eq_decide.2
      constructor
      · rintro ⟨_, _, _, _⟩; omega
      · rintro ⟨_, _⟩; exact ⟨h0, h1, by omega, by omega⟩)
    go_enter Tryd.func34, Tryd.ntmps34
    go_wp2_with (go_at_call 36; refine (l1InS _ _ _ _).mono ?_; rintro e w' ⟨rfl, rfl⟩)
    go_ret
    exact ⟨ret_bool H.out.symm, rfl⟩
  · have hin := inB_no (x := n) hn
    have H := hide (isSetB_no (n := n) (s := s) (fun h => hn ⟨h.1, h.2.1⟩))
    go_enter Tryd.func34, Tryd.ntmps34
    go_wp2_with (go_at_call 36; refine (l1InS _ _ _ _).mono ?_; rintro e w' ⟨rfl, rfl⟩)
    go_ret
    exact ⟨ret_bool H.out.symm, rfl⟩
end Go.Proofs.YtmkacjpjcfffmaaDoor
