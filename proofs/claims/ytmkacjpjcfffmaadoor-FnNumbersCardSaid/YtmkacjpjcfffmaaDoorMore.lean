/- append of a whole slice; a slice of owned rows. No program is named here. -/
import Derived.Test.YtmkacjpjcfffmaaDoorAt
import Derived.Test.YtmkacjpjcfffmaaDoorMathSet
import Derived.Laws.AppendOwnNone
namespace Go.Proofs.YtmkacjpjcfffmaaDoor
open Go.RowKit

section
variable {P : Program} {w : World}
theorem run_append_noneC (base : Nat) (t ty e : TypeId) (i : TypeInfo) (size c : Nat) (ht : P.underlying t = some (.slice e)) (hi : P.info? e = some i)
    (v : Value) (n : Nat) (xs : List Value) (hown : w.ownsRow base e size v n xs) :
    (Builtin.append_ #[t, t] ty #[v, .slice none 0 c]).run P w = .ok v w := by
  rcases hown.2 with ⟨rfl, rfl⟩ | ⟨g, cap, cur, rfl, _, _, hnc, _⟩
  · simp [Builtin.append_, run_underlying ht, sizeOf, typeInfo, hi, Builtin.lenOf, Builtin.firstCells]
  · simp [Builtin.append_, run_underlying ht, sizeOf, typeInfo, hi, Builtin.lenOf, Builtin.firstCells, hnc, storeCells]
end
theorem wpList_append_noneC {P : Program} {w : World} {ops : Array Oper} {rest : List Oper} {o : Oper} {a : Act} {Q : Exit → Act → World → Prop} (hgd : o.guard = none) (s x : Operand) (t : TypeId)
    (ho : o.op = .call { callee := .builtin .append, args := #[s, x], argTypes := #[t, t] })
    (base : Nat) (e : TypeId) (i : TypeInfo) (size c : Nat) (ht : P.underlying t = some (.slice e)) (hi : P.info? e = some i)
    (v : Value) (n : Nat) (xs : List Value) (hs : a.eval s = v) (hown : w.ownsRow base e size v n xs) (hx : a.eval x = .slice none 0 c)
    (h : wpList P ops Q rest (a.put o.dst v) w) : wpList P ops Q (o :: rest) a w := by
  refine wpList_plain hgd fun K hK => ?_
  have hrun := run_append_noneC (P := P) (w := w) base t o.type e i size c ht hi v n xs hown
  unfold Oper.wp
  simp [execOp, ho, resolve, invoke, builtin, hs, hx, hrun, Result.andThen]
  exact hK _ _ h

/-- 'append(out, ys...)' of ints. -/
theorem wpList_appL {P : Program} {ops : Array Oper} {rest : List Oper} {o : Oper} {a : Act} {Q : Exit → Act → World → Prop} {w : World} {B : Nat} {v u : Value} {xs ys : List Int} {T E : TypeId} (hown : OwnV E w B v (ints xs)) (hr : IntsAt w w.heap.size u ys)
    (ht : P.underlying T = some (.slice E)) (he : (P.info? E).map (fun i => (i.zero, i.size, i.bytes)) = some (some (.int .i64 0), 1, 8)) (hg : o.guard = none) (s x : Operand)
    (hop : o.op = Op.call { callee := Callee.builtin Builtin.append, args := #[s, x], argTypes := #[T, T] }) (hs : a.eval s = v)
    (hx : a.eval x = u) (hlen : xs.length + ys.length < 17179869184) (hB : B ≤ w.heap.size)
    (hK : ∀ v' w', OwnV E w' B v' (ints (xs ++ ys)) → Below B w w' → w.grownBy w' v.ownBlock → wpList P ops Q rest (a.put o.dst v') w') :
    wpList P ops Q (o :: rest) a w := by
  obtain ⟨i0, hi, hz0, hz1, hz2⟩ := info_parts he
  obtain ⟨A, c, rfl, hc, hcell⟩ := hr
  have e : ints (xs ++ ys) = ints xs ++ ints ys := by simp [ints]
  have hl1 := ints_length xs
  have hl2 := ints_length ys
  have h1 : ∀ u ∈ ints ys, u.oneCell' = true := by
    intro u hu
    obtain ⟨x, _, rfl⟩ := List.mem_map.1 hu
    rfl
  have go : ∀ ad : Addr, A = some ad → (∀ j u, (ints ys)[j]? = some u → w.cell? (ad.add j) = some u) → wpList P ops Q (o :: rest) a w := by
    rintro ad rfl hh
    refine wpList_append_own w hg s x T hop B E i0 (.int .i64 0) 1 8 ht hi hz0 hz1 hz2 rfl (by decide) v (ints xs).length (ints xs) hs hown ad (ints ys).length c (ints ys) hx (by simp) hh h1 ?_ ?_ hB ?_
    · rw [hl1, hl2]; unfold maxLen; omega
    · rw [hl1, hl2]; omega
    · intro v' w' h1 h2 _
      refine hK v' w' ?_ (grown_below h2 hB (fun k hk => (hown.lt k hk).1)) h2
      rw [e]
      show w'.ownsRow B E 1 v' (ints xs ++ ints ys).length (ints xs ++ ints ys)
      simpa using h1
  by_cases hn : 0 < (ints ys).length
  · obtain ⟨b, o', hA, hb, hcells⟩ := hcell hn
    exact go _ hA fun j u hj => by rw [Addr.add_lit]; exact hcells j u hj
  · have hy : ys = [] := List.eq_nil_of_length_eq_zero (by omega)
    subst hy
    cases hA : A with
    | none =>
      subst hA
      refine wpList_append_noneC hg s x T hop B E i0 1 c ht hi v (ints xs).length (ints xs) hs hown hx ?_
      exact hK v w (by rw [List.append_nil]; exact hown) (Below.refl _ _) (grown_refl _ _)
    | some ad =>
      exact go ad hA (fun j u hj => by simp at hj)

/-- The same as one step of a region that draws its order. -/
theorem step_appL {P : Program} {ops : Array Oper} {o : Oper} {a : Act} {K : Act → World → Prop} {Q : Exit → Act → World → Prop} {F : Prop} {w : World} {B : Nat} {v u : Value} {xs ys : List Int} {T E : TypeId} (hown : OwnV E w B v (ints xs)) (hr : IntsAt w w.heap.size u ys)
    (ht : P.underlying T = some (.slice E)) (he : (P.info? E).map (fun i => (i.zero, i.size, i.bytes)) = some (some (.int .i64 0), 1, 8)) (hg : o.guard = none) (s x : Operand)
    (hop : o.op = Op.call { callee := Callee.builtin Builtin.append, args := #[s, x], argTypes := #[T, T] }) (hs : a.eval s = v)
    (hx : a.eval x = u) (hlen : xs.length + ys.length < 17179869184) (hB : B ≤ w.heap.size)
    (hK : ∀ v' w', OwnV E w' B v' (ints (xs ++ ys)) → Below B w w' → K (a.put o.dst v') w') :
    if Region.wanted o (yielded ops a.tmps) = true then Oper.wp P o a w K Q else F := by
  rw [if_pos (by simp [Region.wanted, hg])]
  obtain ⟨i0, hi, hz0, hz1, hz2⟩ := info_parts he
  obtain ⟨A, c, rfl, hc, hcell⟩ := hr
  have e : ints (xs ++ ys) = ints xs ++ ints ys := by simp [ints]
  have hl1 := ints_length xs
  have hl2 := ints_length ys
  have h1 : ∀ u ∈ ints ys, u.oneCell' = true := by
    intro u hu
    obtain ⟨x, _, rfl⟩ := List.mem_map.1 hu
    rfl
  have go : ∀ ad : Addr, A = some ad → (∀ j u, (ints ys)[j]? = some u → w.cell? (ad.add j) = some u) → Oper.wp P o a w K Q := by
    rintro ad rfl hh
    refine wp_append_own w s x T hop B E i0 (.int .i64 0) 1 8 ht hi hz0 hz1 hz2 rfl (by decide) v (ints xs).length (ints xs) hs hown ad (ints ys).length c (ints ys) hx (by simp) hh h1 ?_ ?_ hB ?_
    · rw [hl1, hl2]; unfold maxLen; omega
    · rw [hl1, hl2]; omega
    · intro v' w' h1 h2 _
      refine hK v' w' ?_ (grown_below h2 hB (fun k hk => (hown.lt k hk).1))
      rw [e]
      show w'.ownsRow B E 1 v' (ints xs ++ ints ys).length (ints xs ++ ints ys)
      simpa using h1
  by_cases hn : 0 < (ints ys).length
  · obtain ⟨b, o', hA, hb, hcells⟩ := hcell hn
    exact go _ hA fun j u hj => by rw [Addr.add_lit]; exact hcells j u hj
  · have hy : ys = [] := List.eq_nil_of_length_eq_zero (by omega)
    subst hy
    cases hA : A with
    | none =>
      subst hA
      have hrun := run_append_noneC (P := P) (w := w) B T o.type E i0 1 c ht hi v (ints xs).length (ints xs) hown
      have h2 := hK v w (by rw [List.append_nil]; exact hown) (Below.refl _ _)
      unfold Oper.wp
      simp [execOp, hop, resolve, invoke, builtin, hs, hx, hrun, Result.andThen]
      exact h2
    | some ad =>
      exact go ad hA (fun j u hj => by simp at hj)

theorem reads_new1 (w : World) (y : Int) (E : TypeId) : IntsAt (w.alloc (.cells #[.int .i64 y] E)) (w.alloc (.cells #[.int .i64 y] E)).heap.size (.slice (some ⟨w.heap.size, 0, none⟩) 1 1) [y] := by
  refine ⟨_, 1, rfl, Nat.le_refl _, fun _ => ⟨w.heap.size, 0, rfl, by simp, fun i u hu => ?_⟩⟩
  match i, hu with
  | 0, hu =>
    have h0 : some (Value.int .i64 y) = some u := hu
    cases h0
    exact World.cell?_alloc_at _ _ _ _ rfl

/-! ### rows that the call owns -/
/-- The block g holds m slices, V j the j-th: each the call's own, with the numbers L j. -/
structure RowsOf (E2 E : TypeId) (w : World) (B g m : Nat) (V : Nat → Value) (L : Nat → List Nat) : Prop where
  top : OwnV E2 w B (.slice (some ⟨g, 0, none⟩) m m) ((List.range m).map V)
  row : ∀ j, j < m → OwnV E w B (V j) (ints (zs (L j)))
  away : ∀ j, j < m → (V j).ownBlock ≠ some g
  apart : ∀ i j, i < m → j < m → i ≠ j → ∀ k, (V i).ownBlock = some k → (V j).ownBlock ≠ some k
theorem RowsOf.lt {E2 E : TypeId} {w : World} {B g m : Nat} {V : Nat → Value} {L : Nat → List Nat} (h : RowsOf E2 E w B g m V L) : B ≤ g ∧ g < w.heap.size := own_block h.top g rfl
theorem RowsOf.cell {E2 E : TypeId} {w : World} {B g m : Nat} {V : Nat → Value} {L : Nat → List Nat} (h : RowsOf E2 E w B g m V L) {j : Nat} (hj : j < m) : w.cell? ⟨g, j, none⟩ = some (V j) ∧ w.frozen? ⟨g, j, none⟩ = false := by
  have hv : (Value.slice (some ⟨g, 0, none⟩) m m) = .slice (some ⟨g, 0, none⟩) ((List.range m).map V).length m := by simp
  exact own_cell h.top hv (by simp [hj])
theorem RowsOf.start {E2 E : TypeId} {w' : World} {B g m : Nat} (h : OwnV E2 w' B (.slice (some ⟨g, 0, none⟩) m m) (List.replicate m (.slice none 0 0))) : RowsOf E2 E w' B g m (fun _ => .slice none 0 0) (fun _ => []) := by
  refine ⟨?_, fun j _ => own_nil _ _, fun j _ e => (nomatch (show (none : Option Nat) = some g from e)), fun i j _ _ _ k hk => (nomatch (show (none : Option Nat) = some k from hk))⟩
  have e : (List.range m).map (fun _ => Value.slice none 0 0) = List.replicate m (.slice none 0 0) := by rw [List.map_const', List.length_range]
  rw [e]
  exact h
theorem RowsOf.congr {E2 E : TypeId} {w : World} {B g m : Nat} {V : Nat → Value} {L L' : Nat → List Nat} (h : RowsOf E2 E w B g m V L) (hl : ∀ j, j < m → L j = L' j) : RowsOf E2 E w B g m V L' :=
  ⟨h.top, fun j hj => by rw [← hl j hj]; exact h.row j hj, h.away, h.apart⟩
theorem RowsOf.step {E2 E : TypeId} {w w' : World} {B g m : Nat} {V : Nat → Value} {L : Nat → List Nat} (h : RowsOf E2 E w B g m V L) {k s : Nat} (hk : k < m) {v' : Value}
    (h1 : OwnV E w' B v' (ints (zs (L k) ++ [(s : Int)]))) (hg : w.grownBy w' (V k).ownBlock) (hb : v'.ownBlock = (V k).ownBlock ∨ v'.ownBlock = some (w.heap.size + 1)) :
    RowsOf E2 E (w'.setCell ⟨g, k, none⟩ v') B g m (fun j => if j = k then v' else V j) (fun j => if j = k then L k ++ [s] else L j) := by
  obtain ⟨hBg, hgw⟩ := h.lt
  have hv : v'.ownBlock ≠ some g := by
    rcases hb with e | e
    · rw [e]; exact h.away k hk
    · rw [e]
      intro hh
      have := Option.some.inj hh
      omega
  have hold : ∀ j, j < m → ∀ x, (V j).ownBlock = some x → x < w.heap.size := fun j hj x hx => (own_block (h.row j hj) x hx).2
  have hvj : ∀ j, j < m → j ≠ k → ∀ x, v'.ownBlock = some x → (V j).ownBlock ≠ some x := by
    intro j hj hne x hx
    rcases hb with e | e
    · rw [e] at hx
      exact h.apart k j hk hj (fun e => hne e.symm) x hx
    · rw [e] at hx
      intro hh
      have h3 := Option.some.inj hx
      have h2 := hold j hj x hh
      omega
  constructor
  · have h2 := own_grown h.top hg (fun x hx => by
      have : x = g := (Option.some.inj (show some g = some x from hx)).symm
      subst this
      exact h.away k hk)
    have hv2 : (Value.slice (some ⟨g, 0, none⟩) m m) = .slice (some ⟨g, 0, none⟩) ((List.range m).map V).length m := by simp
    have h3 := own_set h2 hv2 k v'
    have e : ((List.range m).map V).set k v' = (List.range m).map (fun j => if j = k then v' else V j) := by
      apply List.ext_getElem?
      intro j
      by_cases e : j = k
      · subst e
        rw [List.getElem?_set_self (by simpa using hk)]
        simp [hk]
      · rw [List.getElem?_set_ne (fun h => e h.symm)]
        by_cases hj : j < m
        · simp [hj, e]
        · rw [List.getElem?_eq_none (by simp; omega), List.getElem?_eq_none (by simp; omega)]
    rw [e] at h3
    exact h3
  · intro j hj
    by_cases e : j = k
    · subst e
      simp only [if_true]
      rw [zs_snoc]
      exact own_setNe h1 (fun x hx e => hv (by rw [hx, e])) _ _
    · simp only [if_neg e]
      refine own_setNe (own_grown (h.row j hj) hg (fun x hx hh => h.apart k j hk hj (fun e2 => e e2.symm) x hh hx)) (fun x hx e2 => h.away j hj (by rw [hx, e2])) _ _
  · intro j hj
    by_cases e : j = k
    · subst e
      simp only [if_true]
      exact hv
    · simp only [if_neg e]
      exact h.away j hj
  · intro i j hi hj hne x hx
    by_cases e : i = k
    · subst e
      simp only [if_true] at hx
      simp only [if_neg (fun e2 => hne e2.symm : ¬ j = i)]
      exact hvj j hj (fun e2 => hne e2.symm) x hx
    · simp only [if_neg e] at hx
      by_cases e2 : j = k
      · subst e2
        simp only [if_true]
        intro hh
        exact hvj i hi e x hh hx
      · simp only [if_neg e2]
        exact h.apart i j hi hj hne x hx
theorem RowsOf.below {E2 E : TypeId} {w w' : World} {B g m : Nat} {V : Nat → Value} {L : Nat → List Nat} (h : RowsOf E2 E w B g m V L) (hb : Below w.heap.size w w') : RowsOf E2 E w' B g m V L :=
  ⟨own_below h.top hb, fun j hj => own_below (h.row j hj) hb, h.away, h.apart⟩
theorem RowsOf.mono {E2 E : TypeId} {w : World} {B B' g m : Nat} {V : Nat → Value} {L : Nat → List Nat} (h : RowsOf E2 E w B g m V L) (hB : B' ≤ B) : RowsOf E2 E w B' g m V L :=
  ⟨own_mono h.top hB, fun j hj => own_mono (h.row j hj) hB, h.away, h.apart⟩
/-- One of the rows, and what is left of it when other memory turns. -/
theorem RowsOf.below_step {w w' : World} {B g : Nat} {row : Option Nat} (hg : w.grownBy w' row) (hB : B ≤ w.heap.size) (hr : ∀ k, row = some k → B ≤ k) (hBg : B ≤ g) (k : Nat) (u : Value) : Below B w (w'.setCell ⟨g, k, none⟩ u) :=
  (grown_below hg hB hr).setCell (by exact hBg) u
/-- The cell that the new row is stored into. -/
theorem RowsOf.storeAt {E2 E : TypeId} {w w' : World} {B g m : Nat} {V : Nat → Value} {L : Nat → List Nat} (h : RowsOf E2 E w B g m V L) {k : Nat} (hk : k < m) (hg : w.grownBy w' (V k).ownBlock) :
    w'.cell? ⟨g, k, none⟩ = some (V k) ∧ w'.frozen? ⟨g, k, none⟩ = false := by
  have h2 := own_grown h.top hg (fun x hx => by
    have : x = g := (Option.some.inj (show some g = some x from hx)).symm
    subst this
    exact h.away k hk)
  have hv : (Value.slice (some ⟨g, 0, none⟩) m m) = .slice (some ⟨g, 0, none⟩) ((List.range m).map V).length m := by simp
  exact own_cell h2 hv (by simp [hk])
/-- The call returns a slice of rows of its own. -/
def RetRows (E2 E : TypeId) (w : World) (m : Nat) (L : Nat → List Nat) (e : Ending) (w' : World) : Prop := ∃ g V, e = .returned (.slice (some ⟨g, 0, none⟩) m m) ∧ RowsOf E2 E w' w.heap.size g m V L ∧ Below w.heap.size w w'
end Go.Proofs.YtmkacjpjcfffmaaDoor
