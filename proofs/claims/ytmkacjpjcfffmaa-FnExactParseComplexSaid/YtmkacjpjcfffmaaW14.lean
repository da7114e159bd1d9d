/- Walks: complexes made: complexOf, l3Make, FullComplex. -/
import Derived.Test.YtmkacjpjcfffmaaW6
import Derived.Test.YtmkacjpjcfffmaaW7
import Derived.Test.YtmkacjpjcfffmaaW8
namespace Go.Proofs.Ytmkacjpjcfffmaa
open Go.RowKit

/-- The call returns a complex whose facets are its own, and a bool. -/
def RetCB (e0 : TypeId) (w : World) (n : Int) (xs : List Int) (b : Bool) (e : Ending) (w' : World) : Prop := ∃ v, e = .returned (.tuple #[.agg #[.int .i64 n, v], .bool b]) ∧ OwnV e0 w' w.heap.size v (ints xs) ∧ Below w.heap.size w w'

theorem complexOfI (n : Int) (P : Nat → Bool) (w : World) : Calls Try.prog 124 #[.int .i64 n, .int .u64 (fam P : Int)] w fun e w' => RetC 3 w n (zs (maxOf P)) e w' := by
  go_enter Try.func124, Try.ntmps124
  go_wp2_with fail
  refine (maximalInI P _).mono ?_
  rintro e w1 ⟨v', rfl, hown, hb⟩
  obtain ⟨A', c', rfl⟩ := own_shape hown
  obtain ⟨ho, hfar⟩ := own_far (C := w.heap.size + 1) (D := w.heap.size) hown (by (try simp only [World.size_alloc]); omega) (by (try simp only [World.size_alloc]); omega)
  have Ho := hide ho
  have Hfar := hide hfar
  have Hb : Hid (Below w.heap.size w w1) := (below_alloc w _).trans (hb.mono (by (try simp only [World.size_alloc]); omega))
  obtain ⟨hc, hf⟩ := bcell hb
  have hz := hb.size
  simp only [World.size_alloc] at hz
  clear hown hb ho hfar
  go_wp2
  refine bodyPost_ret (v := .agg #[.int .i64 n, .slice A' (zs (maxOf P)).length c']) (by simp [results, Try.results124, go_sem, hc]) rfl ?_
  refine ⟨_, rfl, ?_, ?_⟩
  · exact own_setNe (own_setNe Ho.out (fun k hk => by have := Hfar.out k hk; omega) _ _) (fun k hk => by have := Hfar.out k hk; omega) _ _
  · have hbw := Hb.out
    go_grown

theorem l3MakeS (n : Int) (v : Value) (xs : List Int) (w : World) (h : IntsAt w w.heap.size v xs) (hl : xs.length ≤ 1073741824) (hall : allSets xs = true) : Calls Try.prog 131 #[.int .i64 n, v] w fun e w' => RetC 3 w n (zs (maxOf (inList xs))) e w' := by
  have ha := ReadsV.alloc h (.cells #[.int .i64 0, .slice none 0 0] 42)
  go_enter Try.func131, Try.ntmps131
  go_wp2_with fail
  refine (l2ExtremeS true v xs _ ha hl hall).mono ?_
  rintro e w1 ⟨v', rfl, hown, hb⟩
  obtain ⟨A', c', rfl⟩ := own_shape hown
  obtain ⟨ho, hfar⟩ := own_far (C := w.heap.size + 1) (D := w.heap.size) hown (by (try simp only [World.size_alloc]); omega) (by (try simp only [World.size_alloc]); omega)
  have Ho := hide ho
  have Hfar := hide hfar
  have Hb : Hid (Below w.heap.size w w1) := (below_alloc w _).trans (hb.mono (by (try simp only [World.size_alloc]); omega))
  obtain ⟨hc, hf⟩ := bcell hb
  have hz := hb.size
  simp only [World.size_alloc] at hz
  clear hown hb ho hfar h ha
  go_wp2
  refine bodyPost_ret (v := .agg #[.int .i64 n, .slice A' (zs (maxOf (inList xs))).length c']) (by simp [results, Try.results131, go_sem, hc, extOf]) rfl ?_
  refine ⟨_, rfl, ?_, ?_⟩
  · exact own_setNe (own_setNe Ho.out (fun k hk => by have := Hfar.out k hk; omega) _ _) (fun k hk => by have := Hfar.out k hk; omega) _ _
  · have hbw := Hb.out
    go_grown

theorem own_lit1 (e : TypeId) (w : World) (y : Value) : OwnV e (w.alloc (.cells #[y] e)) w.heap.size (.slice (some ⟨w.heap.size, 0, none⟩) 1 1) [y] := World.ownsRow_lit (size := 1) w #[y] 1 (Nat.le_refl _) (by unfold maxLen; omega) rfl
theorem retCB_zero (w : World) (T : TypeId) (e0 : TypeId) : RetCB e0 w 0 [] false (.returned (.tuple #[.agg #[.int .i64 0, .slice none 0 0], .bool false])) (w.alloc (.cells #[.int .i64 0, .slice none 0 0] T)) :=
  ⟨_, rfl, own_nil _ _, below_alloc _ _⟩
/-- What FullComplex gives. -/
def fullX (n : Int) : Int := wrap64 (wrap64 (2 ^ n.toNat) - 1)
def fullN (n : Int) : Int := if 1 ≤ n ∧ n ≤ 6 then n else 0
def fullXs (n : Int) : List Int := if 1 ≤ n ∧ n ≤ 6 then [fullX n] else []
def fullB (n : Int) : Bool := decide (1 ≤ n ∧ n ≤ 6)
theorem full_len (n : Int) : (fullXs n).length ≤ 1 := by unfold fullXs; split <;> simp
theorem retCB_full {n : Int} (h : 1 ≤ n ∧ n ≤ 6) (w : World) (T : TypeId) : RetCB 3 w (fullN n) (fullXs n) (fullB n) (.returned (.tuple #[.agg #[.int .i64 n, .slice (some ⟨w.heap.size + 1, 0, none⟩) 1 1], .bool true])) ((w.alloc (.cells #[.int .i64 n, .slice (some ⟨w.heap.size + 1, 0, none⟩) 1 1] T)).alloc (.cells #[.int .i64 (fullX n)] 3)) := by
  unfold fullN fullXs fullB
  rw [if_pos h, if_pos h, decide_eq_true h]
  refine ⟨_, rfl, ?_, ?_⟩
  · have ho := own_lit1 3 (w.alloc (.cells #[.int .i64 n, .slice (some ⟨w.heap.size + 1, 0, none⟩) 1 1] T)) (.int .i64 (fullX n))
    rw [World.size_alloc] at ho
    exact own_mono ho (by omega)
  · exact (below_alloc w _).alloc (by (try simp only [World.size_alloc]); omega) _
theorem retCB_noFull {n : Int} (h : ¬ (1 ≤ n ∧ n ≤ 6)) (w : World) (T : TypeId) : RetCB 3 w (fullN n) (fullXs n) (fullB n) (.returned (.tuple #[.agg #[.int .i64 0, .slice none 0 0], .bool false])) (w.alloc (.cells #[.int .i64 0, .slice none 0 0] T)) := by
  unfold fullN fullXs fullB
  rw [if_neg h, if_neg h, decide_eq_false h]
  exact retCB_zero _ _ _
end Go.Proofs.Ytmkacjpjcfffmaa
