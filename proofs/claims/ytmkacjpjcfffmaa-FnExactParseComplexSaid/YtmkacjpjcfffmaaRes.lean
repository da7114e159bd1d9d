/- A result of a struct: the block that the function made for it. -/
import Derived.Test.YtmkacjpjcfffmaaBox
import Derived.Test.YtmkacjpjcfffmaaW14
namespace Go.Proofs.Ytmkacjpjcfffmaa
open Go.RowKit

/-- The block r is a struct's of two cells, to be written. -/
def Res (r : Nat) (W : World) : Prop := (∃ u0 u1, W.cell? ⟨r, 0, none⟩ = some u0 ∧ W.cell? ⟨r, 1, none⟩ = some u1) ∧ W.frozen? ⟨r, 0, none⟩ = false ∧ W.frozen? ⟨r, 1, none⟩ = false
theorem Res.lt {r : Nat} {W : World} (h : Res r W) : r < W.heap.size := by
  obtain ⟨⟨u0, u1, h0, _⟩, _⟩ := h
  exact World.block_lt_of_cell? _ _ h0
theorem Res.to {r : Nat} {W W' : World} (h : Res r W) (k : Below W.heap.size W W') : Res r W' := by
  have hl := h.lt
  obtain ⟨⟨u0, u1, h0, h1⟩, f0, f1⟩ := h
  obtain ⟨hc, hf⟩ := bcell k
  exact ⟨⟨u0, u1, (hc r 0 hl).trans h0, (hc r 1 hl).trans h1⟩, (hf r 0 hl).trans f0, (hf r 1 hl).trans f1⟩
theorem Res.store {r : Nat} {W : World} (h : Res r W) (x y : Value) : Res r ((W.setCell ⟨r, 0, none⟩ x).setCell ⟨r, 1, none⟩ y) := by
  obtain ⟨⟨u0, u1, h0, h1⟩, f0, f1⟩ := h
  refine ⟨⟨x, y, ?_, ?_⟩, ?_, ?_⟩ <;> simp [go_sem, h0, h1, f0, f1]
theorem AtC.store {b r : Nat} {W : World} {x y : Value} (h : AtC W b x y) (hne : b ≠ r) (x' y' : Value) : AtC ((W.setCell ⟨r, 0, none⟩ x').setCell ⟨r, 1, none⟩ y') b x y := by
  obtain ⟨h0, h1⟩ := h
  constructor
  · simp [go_sem, h0]
  · simp [go_sem, h1]
theorem below_store {B r : Nat} {w W : World} (h : Below B w W) (hr : B ≤ r) (x y : Value) : Below B w ((W.setCell ⟨r, 0, none⟩ x).setCell ⟨r, 1, none⟩ y) := (h.setCell (by exact hr) x).setCell (by exact hr) y
/-- The block of the result, made behind the box of the parameter. -/
theorem boxRes (w : World) (T : TypeId) : ∃ W, w.alloc (.cells #[.int .i64 0, .slice none 0 0] T) = W ∧ AtC W w.heap.size (.int .i64 0) (.slice none 0 0) ∧ Res w.heap.size W ∧ Below w.heap.size w W ∧ W.heap.size = w.heap.size + 1 := by
  refine ⟨_, rfl, ⟨World.cell?_alloc_at _ _ _ _ rfl, World.cell?_alloc_at _ _ _ _ rfl⟩, ⟨⟨_, _, World.cell?_alloc_at _ _ _ _ rfl, World.cell?_alloc_at _ _ _ _ rfl⟩, ?_, ?_⟩, below_alloc _ _, by simp⟩
  · simp [go_sem]
  · simp [go_sem]
/-- What a function gives that makes a complex where 'ok' holds. -/
def cbN (ok : Bool) (n : Int) : Int := if ok then n else 0
def cbXs (ok : Bool) (l : List Nat) : List Int := if ok then zs l else []
theorem cbXs_len (ok : Bool) {l : List Nat} (h : l.length ≤ 448) : (cbXs ok l).length ≤ 1073741824 := by
  unfold cbXs
  split
  · show (List.map _ l).length ≤ _
    rw [List.length_map]; omega
  · simp
theorem retCB_yes {w w' : World} {ok : Bool} {n : Int} {l : List Nat} (h : ok = true) {v : Value} (ho : OwnV 3 w' w.heap.size v (ints (zs l))) (hb : Below w.heap.size w w') : RetCB 3 w (cbN ok n) (cbXs ok l) ok (.returned (.tuple #[.agg #[.int .i64 n, v], .bool true])) w' := by
  subst h
  exact ⟨_, rfl, ho, hb⟩
theorem retCB_no {w w' : World} {ok : Bool} {n : Int} {l : List Nat} (h : ok = false) (hb : Below w.heap.size w w') : RetCB 3 w (cbN ok n) (cbXs ok l) ok (.returned (.tuple #[.agg #[.int .i64 0, .slice none 0 0], .bool false])) w' := by
  subst h
  exact ⟨_, rfl, own_nil _ _, hb⟩
end Go.Proofs.Ytmkacjpjcfffmaa
