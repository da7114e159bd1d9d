/- Walks: ParseComplex in the program. -/
import Derived.Test.YtmkacjpjcfffmaaW55
import Derived.Test.YtmkacjpjcfffmaaW10
import Derived.Test.YtmkacjpjcfffmaaSplit
import Derived.Test.YtmkacjpjcfffmaaParse
import Derived.Test.YtmkacjpjcfffmaaRes
import Derived.Test.YtmkacjpjcfffmaaMore
namespace Go.Proofs.Ytmkacjpjcfffmaa
open Go.RowKit

def setsTo (ps : List (List UInt8)) (k : Nat) : List Int := (ps.take k).map fun p => ((parseSet p).1 : Int)
theorem setsTo_snoc {ps : List (List UInt8)} {k : Nat} {p : List UInt8} (h : ps[k]? = some p) : setsTo ps (k + 1) = setsTo ps k ++ [((parseSet p).1 : Int)] := by
  unfold setsTo
  rw [take_snoc _ _ _ h, List.map_append]
  rfl
theorem setsTo_all {ps : List (List UInt8)} {k : Nat} (h : ps.length ≤ k) : setsTo ps k = ps.map fun p => ((parseSet p).1 : Int) := by
  unfold setsTo
  rw [take_all _ _ h]
theorem setsTo_len (ps : List (List UInt8)) (k : Nat) : (setsTo ps k).length ≤ ps.length := by
  unfold setsTo
  rw [List.length_map, List.length_take]
  omega
theorem setsOk_bad {r : List UInt8} {k : Nat} {p : List UInt8} (hr : r ≠ []) (h : (splitB 44 r)[k]? = some p) (hp : (parseSet p).2 = false) : setsOk r = false := by
  unfold setsOk
  have h1 : r.isEmpty = false := by
    cases r with
    | nil => exact absurd rfl hr
    | cons _ _ => rfl
  rw [h1, Bool.false_or]
  exact List.all_eq_false.2 ⟨p, List.mem_of_getElem? h, by simp [hp]⟩
theorem setsOk_good {r : List UInt8} (h : ∀ (k : Nat) p, (splitB 44 r)[k]? = some p → (parseSet p).2 = true) : setsOk r = true := by
  unfold setsOk
  rw [Bool.or_eq_true]
  refine .inr (List.all_eq_true.2 fun p hp => ?_)
  obtain ⟨j, hj, hje⟩ := List.mem_iff_getElem.1 hp
  exact h j p (List.getElem?_eq_some_iff.2 ⟨hj, hje⟩)
theorem setsXs_ne {r : List UInt8} (hr : r ≠ []) : setsXs r = (splitB 44 r).map fun p => ((parseSet p).1 : Int) := by
  unfold setsXs
  cases r with
  | nil => exact absurd rfl hr
  | cons _ _ => rfl
theorem retCB_pno {w w' : World} {l : List UInt8} (h : pcxOk l = false) (hb : Below w.heap.size w w') : RetCB 3 w (pcxN l) (pcxXs l) (pcxOk l) (.returned (.tuple #[.agg #[.int .i64 0, .slice none 0 0], .bool false])) w' := by
  unfold pcxN pcxXs
  rw [h]
  exact ⟨_, rfl, own_nil _ _, hb⟩
theorem retCB_pyes {w w' : World} {l : List UInt8} {n : Int} {xs : List Int} (h : pcxOk l = true) (hn : headN l = n) (hx : setsXs (l.drop 2) = xs) {v : Value} (ho : OwnV 3 w' w.heap.size v (ints xs)) (hb : Below w.heap.size w w') : RetCB 3 w (pcxN l) (pcxXs l) (pcxOk l) (.returned (.tuple #[.agg #[.int .i64 n, v], .bool true])) w' := by
  unfold pcxN pcxXs
  rw [h, hn, hx]
  exact ⟨_, rfl, ho, hb⟩
/-- What the loop keeps: the box g of the complex under way, its list v, the parts. -/
structure Under7 (w0 W : World) (g : Nat) (n : Int) (xs : List Int) (pv : Value) (ps : List (List UInt8)) (v : Value) : Prop where
  box : AtC W g (.int .i64 n) v
  res : Res g W
  own : OwnV 3 W (g + 1) v (ints xs)
  parts : OwnV 9 W (g + 1) pv (strsV ps)
  apart : ∀ j, v.ownBlock = some j → pv.ownBlock ≠ some j
  below : Below g w0 W
theorem Res.grown {r : Nat} {W W' : World} {row : Option Nat} (h : Res r W) (hg : W.grownBy W' row) (hne : row ≠ some r) : Res r W' := by
  have hl := h.lt
  obtain ⟨⟨u0, u1, h0, h1⟩, f0, f1⟩ := h
  refine ⟨⟨u0, u1, hg.cell h0 (fun e => hne e.symm), hg.cell h1 (fun e => hne e.symm)⟩, ?_, ?_⟩
  · exact (World.frozen?_of_block (a := ⟨r, 0, none⟩) (w := W) (hg.block r hl (fun e => hne e.symm))).trans f0
  · exact (World.frozen?_of_block (a := ⟨r, 1, none⟩) (w := W) (hg.block r hl (fun e => hne e.symm))).trans f1
theorem own_shape56 {e : TypeId} {w : World} {B : Nat} {v : Value} {xs : List Int} (h : OwnV e w B v (ints xs)) : ∃ A n c, v = .slice A n c := by
  obtain ⟨A, c, hv, _⟩ := form_ (own_reads h)
  exact ⟨A, _, c, hv⟩
theorem Under7.to {w0 W W' : World} {g : Nat} {n : Int} {xs : List Int} {pv v : Value} {ps : List (List UInt8)} (h : Under7 w0 W g n xs pv ps v) (k : Below W.heap.size W W') : Under7 w0 W' g n xs pv ps v :=
  ⟨h.box.to k, h.res.to k, own_below h.own k, own_below h.parts k, h.apart, h.below.trans (k.mono (Nat.le_of_lt h.res.lt))⟩
/-- One set more: 'c.Facets = append(c.Facets, s)'. -/
theorem Under7.step {w0 W W' : World} {g : Nat} {n y : Int} {xs : List Int} {pv v v' : Value} {ps : List (List UInt8)} (h : Under7 w0 W g n xs pv ps v)
    (h1 : OwnV 3 W' (g + 1) v' (ints (xs ++ [y]))) (hg : W.grownBy W' v.ownBlock) (hat : v'.ownBlock = v.ownBlock ∨ v'.ownBlock = some (W.heap.size + 1)) :
    AtC W' g (.int .i64 n) v ∧ Res g W' ∧ Under7 w0 (W'.setCell ⟨g, 1, none⟩ v') g n (xs ++ [y]) pv ps v' := by
  have hne : v.ownBlock ≠ some g := fun e => by have := (own_block h.own g e).1; omega
  have hne' : ∀ j, v'.ownBlock = some j → g ≠ j := fun j hj => by have := (own_block h1 j hj).1; omega
  have hnp : ∀ j, pv.ownBlock = some j → g ≠ j := fun j hj => by have := (own_block h.parts j hj).1; omega
  have hb : AtC W' g (.int .i64 n) v := h.box.grown hg hne
  have hr : Res g W' := Res.grown h.res hg hne
  have hB : g ≤ W.heap.size := Nat.le_of_lt h.res.lt
  have hbW : Below g w0 W' := h.below.trans (grown_below hg hB (fun k hk => Nat.le_of_lt (own_block h.own k hk).1))
  refine ⟨hb, hr, ⟨?_, ?_, own_setNe h1 hne' _ _, own_setNe (own_grown h.parts hg (fun j hj e => h.apart j e hj)) hnp _ _, ?_, hbW.setCell (Nat.le_refl _) _⟩⟩
  · refine ⟨?_, ?_⟩
    · simp [go_sem, hb.1]
    · simp [go_sem, hb.2]
  · obtain ⟨⟨u0, u1, c0, c1⟩, f0, f1⟩ := hr
    refine ⟨⟨u0, v', ?_, ?_⟩, ?_, ?_⟩
    · simp [go_sem, c0]
    · simp [go_sem, c1]
    · simp [go_sem, f0]
    · simp [go_sem, f1]
  · intro j hj e
    rcases hat with h2 | h2
    · exact h.apart j (by rw [← h2]; exact hj) e
    · rw [h2] at hj
      have := Option.some.inj hj
      have := (own_block h.parts j e).2
      omega
end Go.Proofs.Ytmkacjpjcfffmaa
