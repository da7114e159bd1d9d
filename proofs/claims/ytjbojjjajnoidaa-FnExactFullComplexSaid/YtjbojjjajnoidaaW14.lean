/- Walks: complexes made: complexOf, l3Make, FullComplex. -/
import Derived.Test.YtjbojjjajnoidaaW6
import Derived.Test.YtjbojjjajnoidaaW7
import Derived.Test.YtjbojjjajnoidaaW8
namespace Go.Proofs.Ytjbojjjajnoidaa
open Go.RowKit

/-- The call returns a complex whose facets are its own, and a bool. -/
def RetCB (e0 : TypeId) (w : World) (n : Int) (xs : List Int) (b : Bool) (e : Ending) (w' : World) : Prop := ∃ v, e = .returned (.tuple #[.agg #[.int .i64 n, v], .bool b]) ∧ OwnV e0 w' w.heap.size v (ints xs) ∧ Below w.heap.size w w'

theorem own_lit1 (e : TypeId) (w : World) (y : Value) : OwnV e (w.alloc (.cells #[y] e)) w.heap.size (.slice (some ⟨w.heap.size, 0, none⟩) 1 1) [y] := World.ownsRow_lit (size := 1) w #[y] 1 (Nat.le_refl _) (by unfold maxLen; omega) rfl
theorem retCB_zero (w : World) (T : TypeId) (e0 : TypeId) : RetCB e0 w 0 [] false (.returned (.tuple #[.agg #[.int .i64 0, .slice none 0 0], .bool false])) (w.alloc (.cells #[.int .i64 0, .slice none 0 0] T)) :=
  ⟨_, rfl, own_nil _ _, below_alloc _ _⟩
/-- What FullComplex gives. -/
def fullX (n : Int) : Int := wrap64 (wrap64 (2 ^ n.toNat) - 1)
def fullN (n : Int) : Int := if 1 ≤ n ∧ n ≤ 6 then n else 0
def fullXs (n : Int) : List Int := if 1 ≤ n ∧ n ≤ 6 then [fullX n] else []
def fullB (n : Int) : Bool := decide (1 ≤ n ∧ n ≤ 6)
theorem full_len (n : Int) : (fullXs n).length ≤ 1 := by unfold fullXs; split <;> simp
theorem retCB_full {n : Int} (h : 1 ≤ n ∧ n ≤ 6) (w : World) (T : TypeId) : RetCB 3 w (fullN n) (fullXs n) (fullB n) (.returned (.tuple #[.agg #[.int .i64 n, .slice (some ⟨w.heap.size + 1, 0, none⟩) 1 1], .bool true])) ((w.alloc (.cells #[.int .i64 n, .slice (some ⟨w.heap.size + 1, 0, none⟩) 1 1] T)).alloc (.cells #[.int .i64 (fullX n)] 3)) := by
  unfold fullN fullXs fullB
  rw [if_pos h, if_pos h, decide_eq_true h]
  refine ⟨_, rfl, ?_, ?_⟩
  · have ho := own_lit1 3 (w.alloc (.cells #[.int .i64 n, .slice (some ⟨w.heap.size + 1, 0, none⟩) 1 1] T)) (.int .i64 (fullX n))
    rw [World.size_alloc] at ho
    exact own_mono ho (by omega)
  · exact (below_alloc w _).alloc (by (try simp only [World.size_alloc]); omega) _
theorem retCB_noFull {n : Int} (h : ¬ (1 ≤ n ∧ n ≤ 6)) (w : World) (T : TypeId) : RetCB 3 w (fullN n) (fullXs n) (fullB n) (.returned (.tuple #[.agg #[.int .i64 0, .slice none 0 0], .bool false])) (w.alloc (.cells #[.int .i64 0, .slice none 0 0] T)) := by
  unfold fullN fullXs fullB
  rw [if_neg h, if_neg h, decide_eq_false h]
  exact retCB_zero _ _ _
theorem fullComplexI (n : Int) (w : World) : Calls Try.prog 24 #[.int .i64 n] w fun e w' => RetCB 3 w (fullN n) (fullXs n) (fullB n) e w' := by
  by_cases hn : 1 ≤ n ∧ n ≤ 6
  · have Hn := hide hn
    obtain ⟨h1, h2⟩ := hn
    go_enter Try.func24, Try.ntmps24
    go_wp2
    refine bodyPost_ret (v := .tuple #[.agg #[.int .i64 n, .slice (some ⟨w.heap.size + 1, 0, none⟩) 1 1], .bool true]) (by simp [results, Try.results24, go_sem]) rfl ?_
    exact retCB_full Hn.out w _
  · have Hn := hide hn
    rcases Int.lt_or_le n 1 with h | h
    · clear hn
      go_enter Try.func24, Try.ntmps24
      go_wp2
      refine bodyPost_ret (v := .tuple #[.agg #[.int .i64 0, .slice none 0 0], .bool false]) (by simp [results, Try.results24, go_sem]) rfl ?_
      exact retCB_noFull Hn.out w _
    · have h2 : 6 < n := by omega
      clear hn
      go_enter Try.func24, Try.ntmps24
      go_wp2
      refine bodyPost_ret (v := .tuple #[.agg #[.int .i64 0, .slice none 0 0], .bool false]) (by simp [results, Try.results24, go_sem]) rfl ?_
      exact retCB_noFull Hn.out w _
theorem fullComplexS (n : Int) (w : World) : Calls Try.prog 23 #[.int .i64 n] w fun e w' => RetCB 3 w (fullN n) (fullXs n) (fullB n) e w' := by
  by_cases hn : 1 ≤ n ∧ n ≤ 6
  · have Hn := hide hn
    have Hin : Hid (inB n 1 6 = true) := inB_mk hn
    obtain ⟨h1, h2⟩ := hn
    go_enter Try.func23, Try.ntmps23
    go_wp2_with (go_at_call 51; refine (l1InS _ _ _ _).mono ?_; rw [Hin.out]; rintro e wx ⟨rfl, rfl⟩)
    refine bodyPost_ret (v := .tuple #[.agg #[.int .i64 n, .slice (some ⟨w.heap.size + 1, 0, none⟩) 1 1], .bool true]) (by simp [results, Try.results23, go_sem]) rfl ?_
    exact retCB_full Hn.out w _
  · have Hn := hide hn
    have Hin : Hid (inB n 1 6 = false) := inB_no hn
    clear hn
    go_enter Try.func23, Try.ntmps23
    go_wp2_with (go_at_call 51; refine (l1InS _ _ _ _).mono ?_; rw [Hin.out]; rintro e wx ⟨rfl, rfl⟩)
    refine bodyPost_ret (v := .tuple #[.agg #[.int .i64 0, .slice none 0 0], .bool false]) (by simp [results, Try.results23, go_sem]) rfl ?_
    exact retCB_noFull Hn.out w _
end Go.Proofs.Ytjbojjjajnoidaa
