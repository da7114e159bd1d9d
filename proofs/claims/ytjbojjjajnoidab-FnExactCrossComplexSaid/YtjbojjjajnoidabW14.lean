/- Walks: complexes made: complexOf, l3Make, FullComplex. -/
import Derived.Test.YtjbojjjajnoidabW6
import Derived.Test.YtjbojjjajnoidabW7
import Derived.Test.YtjbojjjajnoidabW8
namespace Go.Proofs.Ytjbojjjajnoidab
open Go.RowKit

/-- The call returns a complex whose facets are its own, and a bool. -/
def RetCB (e0 : TypeId) (w : World) (n : Int) (xs : List Int) (b : Bool) (e : Ending) (w' : World) : Prop := ∃ v, e = .returned (.tuple #[.agg #[.int .i64 n, v], .bool b]) ∧ OwnV e0 w' w.heap.size v (ints xs) ∧ Below w.heap.size w w'

theorem complexOfI (n : Int) (P : Nat → Bool) (w : World) : Calls Try.prog 63 #[.int .i64 n, .int .u64 (fam P : Int)] w fun e w' => RetC 3 w n (zs (maxOf P)) e w' := by
  go_enter Try.func63, Try.ntmps63
  go_wp2_with fail
  refine (maximalInI P _).mono ?_
  rintro e w1 ⟨v', rfl, hown, hb⟩
  obtain ⟨A', c', rfl⟩ := own_shape hown
  obtain ⟨ho, hfar⟩ := own_far (C := w.heap.size + 1) (D := w.heap.size) hown (by (try simp only [World.size_alloc]); omega) (by (try simp only [World.size_alloc]); omega)
  have Ho := hide ho
  have Hfar := hide hfar
  have Hb : Hid (Below w.heap.size w w1) := (below_alloc w _).trans (hb.mono (by (try simp only [World.size_alloc]); omega))
  obtain ⟨hc, hf⟩ := bcell hb
  have hz := hb.size
  simp only [World.size_alloc] at hz
  clear hown hb ho hfar
  go_wp2
  refine bodyPost_ret (v := .agg #[.int .i64 n, .slice A' (zs (maxOf P)).length c']) (by simp [results, Try.results63, go_sem, hc]) rfl ?_
  refine ⟨_, rfl, ?_, ?_⟩
  · exact own_setNe (own_setNe Ho.out (fun k hk => by have := Hfar.out k hk; omega) _ _) (fun k hk => by have := Hfar.out k hk; omega) _ _
  · have hbw := Hb.out
    go_grown

theorem l3MakeS (n : Int) (v : Value) (xs : List Int) (w : World) (h : IntsAt w w.heap.size v xs) (hl : xs.length ≤ 1073741824) (hall : allSets xs = true) : Calls Try.prog 62 #[.int .i64 n, v] w fun e w' => RetC 3 w n (zs (maxOf (inList xs))) e w' := by
  have ha := ReadsV.alloc h (.cells #[.int .i64 0, .slice none 0 0] 27)
  go_enter Try.func62, Try.ntmps62
  go_wp2_with fail
  refine (l2ExtremeS true v xs _ ha hl hall).mono ?_
  rintro e w1 ⟨v', rfl, hown, hb⟩
  obtain ⟨A', c', rfl⟩ := own_shape hown
  obtain ⟨ho, hfar⟩ := own_far (C := w.heap.size + 1) (D := w.heap.size) hown (by (try simp only [World.size_alloc]); omega) (by (try simp only [World.size_alloc]); omega)
  have Ho := hide ho
  have Hfar := hide hfar
  have Hb : Hid (Below w.heap.size w w1) := (below_alloc w _).trans (hb.mono (by (try simp only [World.size_alloc]); omega))
  obtain ⟨hc, hf⟩ := bcell hb
  have hz := hb.size
  simp only [World.size_alloc] at hz
  clear hown hb ho hfar h ha
  go_wp2
  refine bodyPost_ret (v := .agg #[.int .i64 n, .slice A' (zs (maxOf (inList xs))).length c']) (by simp [results, Try.results62, go_sem, hc, extOf]) rfl ?_
  refine ⟨_, rfl, ?_, ?_⟩
  · exact own_setNe (own_setNe Ho.out (fun k hk => by have := Hfar.out k hk; omega) _ _) (fun k hk => by have := Hfar.out k hk; omega) _ _
  · have hbw := Hb.out
    go_grown

end Go.Proofs.Ytjbojjjajnoidab
