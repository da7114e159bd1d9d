/- Boxed complexes: parameters and locals of a struct of an int and a slice. -/
import Derived.Test.YtmkacjpjcfffmaaDoorW8
namespace Go.Proofs.YtmkacjpjcfffmaaDoor
open Go.RowKit

/-- The block b holds x and y. -/
def AtC (w : World) (b : Nat) (x y : Value) : Prop := w.cell? ⟨b, 0, none⟩ = some x ∧ w.cell? ⟨b, 1, none⟩ = some y
theorem AtC.to {W w' : World} {b : Nat} {x y : Value} (h : AtC W b x y) (c : Below W.heap.size W w') : AtC w' b x y :=
  ⟨(c.cell (p := ⟨b, 0, none⟩) (World.block_lt_of_cell? _ _ h.1)).trans h.1, (c.cell (p := ⟨b, 1, none⟩) (World.block_lt_of_cell? _ _ h.2)).trans h.2⟩
theorem AtC.grown {W W' : World} {b : Nat} {x y : Value} {row : Option Nat} (h : AtC W b x y) (hg : W.grownBy W' row) (hne : row ≠ some b) : AtC W' b x y :=
  ⟨hg.cell h.1 (fun e => hne e.symm), hg.cell h.2 (fun e => hne e.symm)⟩
theorem AtC.lt {W : World} {b : Nat} {x y : Value} (h : AtC W b x y) : b < W.heap.size := World.block_lt_of_cell? _ _ h.1
theorem boxC (w : World) (x y : Value) (T : TypeId) : ∃ W, w.alloc (.cells #[x, y] T) = W ∧ AtC W w.heap.size x y ∧ Below w.heap.size w W ∧ W.heap.size = w.heap.size + 1 :=
  ⟨_, rfl, ⟨World.cell?_alloc_at _ _ _ _ rfl, World.cell?_alloc_at _ _ _ _ rfl⟩, below_alloc _ _, by simp⟩
/-- A local of a struct, made and stored into. -/
theorem localC (w : World) (x y x0 y0 : Value) (T : TypeId) : ∃ W, ((w.alloc (.cells #[x0, y0] T)).setCell ⟨w.heap.size, 0, none⟩ x).setCell ⟨w.heap.size, 1, none⟩ y = W ∧ AtC W w.heap.size x y ∧ Below w.heap.size w W ∧ W.heap.size = w.heap.size + 1 := by
  refine ⟨_, rfl, ⟨?_, ?_⟩, ?_, ?_⟩
  · simp [go_sem]
  · simp [go_sem]
  · go_grown
  · simp
theorem eqIntS_same (v1 v2 : Value) (xs : List Int) (w : World) (h1 : IntsAt w w.heap.size v1 xs) (h2 : IntsAt w w.heap.size v2 xs) (hl : xs.length ≤ 1073741824) :
    Calls Tryd.prog 26 #[v1, v2] w fun e w' => RetB w true e w' := by
  have h := eqIntS_any v1 v2 xs xs w h1 h2 hl hl
  rwa [show decide (xs = xs) = true by simp] at h
end Go.Proofs.YtmkacjpjcfffmaaDoor
