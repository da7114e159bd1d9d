/- A region that makes a complex's box somewhere between its calls. No program is named here. -/
import Derived.Test.YtmkacjpjcfffmabRes
import Derived.Deep.DeepCutAuto
namespace Go.Proofs.Ytmkacjpjcfffmab
open Go.RowKit

/-- The block r is a box to be written, made from the block B on. -/
def ResG (B r : Nat) (W : World) : Prop := Res r W ∧ B ≤ r
theorem ResG.to {B r : Nat} {W W' : World} (h : ResG B r W) (k : Below W.heap.size W W') : ResG B r W' := ⟨h.1.to k, h.2⟩
theorem ResG.ltB {B r : Nat} {W W' : World} (h : ResG B r W) (_ : Below W.heap.size W W') : r < W.heap.size := h.1.lt
theorem resg_new {B : Nat} (w : World) (T : TypeId) (h : B ≤ w.heap.size) : ResG B w.heap.size (w.alloc (.cells #[.int .i64 0, .slice none 0 0] T)) := by
  obtain ⟨W, rfl, _, h2, _, _⟩ := boxRes w T
  exact ⟨h2, h⟩
theorem resg_newD {B : Nat} (w : World) (T : TypeId) (h : B ≤ w.heap.size) : ResG B w.heap.size (w.alloc (.cells #[.int .i64 0, .slice none 0 0] T)).drew := resg_new w T h
theorem Res.stored {r : Nat} {W : World} (h : Res r W) (x y : Value) : AtC ((W.setCell ⟨r, 0, none⟩ x).setCell ⟨r, 1, none⟩ y) r x y := by
  obtain ⟨⟨u0, u1, h0, h1⟩, f0, f1⟩ := h
  constructor
  · simp [go_sem, h0]
  · simp [go_sem, h1]
theorem below_allocD {a w : World} (h : Below a.heap.size a w) (o : Obj) : Below a.heap.size a (w.alloc o) := h.alloc h.size o
theorem own_stored {e : TypeId} {w : World} {B C g : Nat} {v : Value} {vs : List Value} (h : OwnV e w B v vs) (hC : ∀ j, v.ownBlock = some j → C ≤ j) (hg : g < C) (x y : Value) : OwnV e ((w.setCell ⟨g, 0, none⟩ x).setCell ⟨g, 1, none⟩ y) B v vs :=
  own_setNe (own_setNe h (fun j hj => by have := hC j hj; omega) _ _) (fun j hj => by have := hC j hj; omega) _ _
end Go.Proofs.Ytmkacjpjcfffmab
