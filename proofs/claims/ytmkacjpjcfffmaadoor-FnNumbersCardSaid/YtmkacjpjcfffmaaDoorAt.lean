/- append to an owned slice of ints, with the word where the result lies. -/
import Derived.Test.YtmkacjpjcfffmaaDoorBase
import Derived.Maps.AppendAt
namespace Go.Proofs.YtmkacjpjcfffmaaDoor
open Go.RowKit

theorem wpList_appAt {P : Program} {ops : Array Oper} {rest : List Oper} {o : Oper} {a : Act} {Q : Exit → Act → World → Prop} {w : World} {B : Nat} {v : Value} {xs : List Int} {T E : TypeId} (hown : OwnV E w B v (ints xs)) (y : Int)
    (ht : P.underlying T = some (.slice E)) (he : (P.info? E).map (fun i => (i.zero, i.size, i.bytes)) = some (some (.int .i64 0), 1, 8)) (hg : o.guard = none) (s x : Operand)
    (hop : o.op = Op.call { callee := Callee.builtin Builtin.append, args := #[s, x], argTypes := #[T, T] }) (hs : a.eval s = v)
    (hx : a.eval x = .slice (some ⟨w.heap.size, 0, none⟩) 1 1) (hlen : xs.length < 17179869184) (hB : B ≤ w.heap.size)
    (hK : ∀ v' w', OwnV E w' B v' (ints (xs ++ [y])) → Below B w w' → w.grownBy w' v.ownBlock → (v'.ownBlock = v.ownBlock ∨ v'.ownBlock = some (w.heap.size + 1)) → wpList P ops Q rest (a.put o.dst v') w') :
    wpList P ops Q (o :: rest) a (w.alloc (.cells #[.int .i64 y] E)) := by
  obtain ⟨i0, hi, hz0, hz1, hz2⟩ := info_parts he
  refine wpList_append_own_at (w := w.alloc (.cells #[.int .i64 y] E)) hg s x T hop B E i0 (.int .i64 0) 1 8 ht hi hz0 hz1 hz2 rfl (by decide) v (ints xs).length (ints xs) hs (hown.alloc _) ⟨w.heap.size, 0, none⟩ 1 1 [.int .i64 y] hx rfl ?_ ?_ ?_ ?_ (by simp; omega) ?_
  · intro j u hj
    match j, hj with
    | 0, hj =>
      have h0 : some (Value.int .i64 y) = some u := hj
      cases h0
      show (w.alloc (.cells #[.int .i64 y] E)).cell? ⟨w.heap.size, 0, none⟩ = some (.int .i64 y)
      exact World.cell?_alloc_at _ _ _ _ rfl
  · intro u hu
    simp at hu
    subst hu
    rfl
  · rw [ints_length]; unfold maxLen; omega
  · rw [ints_length]; omega
  · intro v' w' h1 h2 _ h4
    have h3 := grown_trans (World.grownBy_alloc w (.cells #[.int .i64 y] E) v.ownBlock) h2
    have h5 : OwnV E w' B v' (ints (xs ++ [y])) := by
      rw [ints_snoc]
      show w'.ownsRow B E 1 v' (ints xs ++ [Value.int .i64 y]).length (ints xs ++ [Value.int .i64 y])
      simpa using h1
    exact hK v' w' h5 (grown_below h3 hB (fun k hk => (hown.lt k hk).1)) h3 (by simpa using h4)
end Go.Proofs.YtmkacjpjcfffmaaDoor
