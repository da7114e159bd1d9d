/- Texts of one kind, laid together (5 of them). -/
import Derived.Laws.AppendOwnNone
import Derived.Test.YtmkacjpjcfffmabGreatDoorShelf
import Derived.Lib.AppendStr
import Derived.Lib.Join
import Derived.Test.YtmkacjpjcfffmabGreatDoorP1
namespace Go.Proofs.YtmkacjpjcfffmabGreatDoor
/- append of a whole slice; a slice of owned rows. No program is named here. -/
section
open Go.RowKit

section
variable {P : Program} {w : World}
theorem run_append_noneC (base : Nat) (t ty e : TypeId) (i : TypeInfo) (size c : Nat) (ht : P.underlying t = some (.slice e)) (hi : P.info? e = some i)
    (v : Value) (n : Nat) (xs : List Value) (hown : w.ownsRow base e size v n xs) :
    (Builtin.append_ #[t, t] ty #[v, .slice none 0 c]).run P w = .ok v w := by
  rcases hown.2 with ⟨rfl, rfl⟩ | ⟨g, cap, cur, rfl, _, _, hnc, _⟩
  · simp [Builtin.append_, run_underlying ht, sizeOf, typeInfo, hi, Builtin.lenOf, Builtin.firstCells]
  · simp [Builtin.append_, run_underlying ht, sizeOf, typeInfo, hi, Builtin.lenOf, Builtin.firstCells, hnc, storeCells]
end
theorem wpList_append_noneC {P : Program} {w : World} {ops : Array Oper} {rest : List Oper} {o : Oper} {a : Act} {Q : Exit → Act → World → Prop} (hgd : o.guard = none) (s x : Operand) (t : TypeId)
    (ho : o.op = .call { callee := .builtin .append, args := #[s, x], argTypes := #[t, t] })
    (base : Nat) (e : TypeId) (i : TypeInfo) (size c : Nat) (ht : P.underlying t = some (.slice e)) (hi : P.info? e = some i)
    (v : Value) (n : Nat) (xs : List Value) (hs : a.eval s = v) (hown : w.ownsRow base e size v n xs) (hx : a.eval x = .slice none 0 c)
    (h : wpList P ops Q rest (a.put o.dst v) w) : wpList P ops Q (o :: rest) a w := by
  refine wpList_plain hgd fun K hK => ?_
  have hrun := run_append_noneC (P := P) (w := w) base t o.type e i size c ht hi v n xs hown
  unfold Oper.wp
  simp [execOp, ho, resolve, invoke, builtin, hs, hx, hrun, Result.andThen]
  exact hK _ _ h

/-- 'append(out, ys...)' of ints. -/
theorem wpList_appL {P : Program} {ops : Array Oper} {rest : List Oper} {o : Oper} {a : Act} {Q : Exit → Act → World → Prop} {w : World} {B : Nat} {v u : Value} {xs ys : List Int} {T E : TypeId} (hown : OwnV E w B v (ints xs)) (hr : IntsAt w w.heap.size u ys)
    (ht : P.underlying T = some (.slice E)) (he : (P.info? E).map (fun i => (i.zero, i.size, i.bytes)) = some (some (.int .i64 0), 1, 8)) (hg : o.guard = none) (s x : Operand)
    (hop : o.op = Op.call { callee := Callee.builtin Builtin.append, args := #[s, x], argTypes := #[T, T] }) (hs : a.eval s = v)
    (hx : a.eval x = u) (hlen : xs.length + ys.length < 17179869184) (hB : B ≤ w.heap.size)
    (hK : ∀ v' w', OwnV E w' B v' (ints (xs ++ ys)) → Below B w w' → w.grownBy w' v.ownBlock → wpList P ops Q rest (a.put o.dst v') w') :
    wpList P ops Q (o :: rest) a w := by
  obtain ⟨i0, hi, hz0, hz1, hz2⟩ := info_parts he
  obtain ⟨A, c, rfl, hc, hcell⟩ := hr
  have e : ints (xs ++ ys) = ints xs ++ ints ys := by simp [ints]
  have hl1 := ints_length xs
  have hl2 := ints_length ys
  have h1 : ∀ u ∈ ints ys, u.oneCell' = true := by
    intro u hu
    obtain ⟨x, _, rfl⟩ := List.mem_map.1 hu
    rfl
  have go : ∀ ad : Addr, A = some ad → (∀ j u, (ints ys)[j]? = some u → w.cell? (ad.add j) = some u) → wpList P ops Q (o :: rest) a w := by
    rintro ad rfl hh
    refine wpList_append_own w hg s x T hop B E i0 (.int .i64 0) 1 8 ht hi hz0 hz1 hz2 rfl (by decide) v (ints xs).length (ints xs) hs hown ad (ints ys).length c (ints ys) hx (by simp) hh h1 ?_ ?_ hB ?_
    · rw [hl1, hl2]; unfold maxLen; omega
    · rw [hl1, hl2]; omega
    · intro v' w' h1 h2 _
      refine hK v' w' ?_ (grown_below h2 hB (fun k hk => (hown.lt k hk).1)) h2
      rw [e]
      show w'.ownsRow B E 1 v' (ints xs ++ ints ys).length (ints xs ++ ints ys)
      simpa using h1
  by_cases hn : 0 < (ints ys).length
  · obtain ⟨b, o', hA, hb, hcells⟩ := hcell hn
    exact go _ hA fun j u hj => by rw [Addr.add_lit]; exact hcells j u hj
  · have hy : ys = [] := List.eq_nil_of_length_eq_zero (by omega)
    subst hy
    cases hA : A with
    | none =>
      subst hA
      refine wpList_append_noneC hg s x T hop B E i0 1 c ht hi v (ints xs).length (ints xs) hs hown hx ?_
      exact hK v w (by rw [List.append_nil]; exact hown) (Below.refl _ _) (grown_refl _ _)
    | some ad =>
      exact go ad hA (fun j u hj => by simp at hj)

/-- The same as one step of a region that draws its order. -/
theorem step_appL {P : Program} {ops : Array Oper} {o : Oper} {a : Act} {K : Act → World → Prop} {Q : Exit → Act → World → Prop} {F : Prop} {w : World} {B : Nat} {v u : Value} {xs ys : List Int} {T E : TypeId} (hown : OwnV E w B v (ints xs)) (hr : IntsAt w w.heap.size u ys)
    (ht : P.underlying T = some (.slice E)) (he : (P.info? E).map (fun i => (i.zero, i.size, i.bytes)) = some (some (.int .i64 0), 1, 8)) (hg : o.guard = none) (s x : Operand)
    (hop : o.op = Op.call { callee := Callee.builtin Builtin.append, args := #[s, x], argTypes := #[T, T] }) (hs : a.eval s = v)
    (hx : a.eval x = u) (hlen : xs.length + ys.length < 17179869184) (hB : B ≤ w.heap.size)
    (hK : ∀ v' w', OwnV E w' B v' (ints (xs ++ ys)) → Below B w w' → K (a.put o.dst v') w') :
    if Region.wanted o (yielded ops a.tmps) = true then Oper.wp P o a w K Q else F := by
  rw [if_pos (by simp [Region.wanted, hg])]
  obtain ⟨i0, hi, hz0, hz1, hz2⟩ := info_parts he
  obtain ⟨A, c, rfl, hc, hcell⟩ := hr
  have e : ints (xs ++ ys) = ints xs ++ ints ys := by simp [ints]
  have hl1 := ints_length xs
  have hl2 := ints_length ys
  have h1 : ∀ u ∈ ints ys, u.oneCell' = true := by
    intro u hu
    obtain ⟨x, _, rfl⟩ := List.mem_map.1 hu
    rfl
  have go : ∀ ad : Addr, A = some ad → (∀ j u, (ints ys)[j]? = some u → w.cell? (ad.add j) = some u) → Oper.wp P o a w K Q := by
    rintro ad rfl hh
    refine wp_append_own w s x T hop B E i0 (.int .i64 0) 1 8 ht hi hz0 hz1 hz2 rfl (by decide) v (ints xs).length (ints xs) hs hown ad (ints ys).length c (ints ys) hx (by simp) hh h1 ?_ ?_ hB ?_
    · rw [hl1, hl2]; unfold maxLen; omega
    · rw [hl1, hl2]; omega
    · intro v' w' h1 h2 _
      refine hK v' w' ?_ (grown_below h2 hB (fun k hk => (hown.lt k hk).1))
      rw [e]
      show w'.ownsRow B E 1 v' (ints xs ++ ints ys).length (ints xs ++ ints ys)
      simpa using h1
  by_cases hn : 0 < (ints ys).length
  · obtain ⟨b, o', hA, hb, hcells⟩ := hcell hn
    exact go _ hA fun j u hj => by rw [Addr.add_lit]; exact hcells j u hj
  · have hy : ys = [] := List.eq_nil_of_length_eq_zero (by omega)
    subst hy
    cases hA : A with
    | none =>
      subst hA
      have hrun := run_append_noneC (P := P) (w := w) B T o.type E i0 1 c ht hi v (ints xs).length (ints xs) hown
      have h2 := hK v w (by rw [List.append_nil]; exact hown) (Below.refl _ _)
      unfold Oper.wp
      simp [execOp, hop, resolve, invoke, builtin, hs, hx, hrun, Result.andThen]
      exact h2
    | some ad =>
      exact go ad hA (fun j u hj => by simp at hj)

theorem reads_new1 (w : World) (y : Int) (E : TypeId) : IntsAt (w.alloc (.cells #[.int .i64 y] E)) (w.alloc (.cells #[.int .i64 y] E)).heap.size (.slice (some ⟨w.heap.size, 0, none⟩) 1 1) [y] := by
  refine ⟨_, 1, rfl, Nat.le_refl _, fun _ => ⟨w.heap.size, 0, rfl, by simp, fun i u hu => ?_⟩⟩
  match i, hu with
  | 0, hu =>
    have h0 : some (Value.int .i64 y) = some u := hu
    cases h0
    exact World.cell?_alloc_at _ _ _ _ rfl

/-! ### rows that the call owns -/
/-- The block g holds m slices, V j the j-th: each the call's own, with the numbers L j. -/
structure RowsOf (E2 E : TypeId) (w : World) (B g m : Nat) (V : Nat → Value) (L : Nat → List Nat) : Prop where
  top : OwnV E2 w B (.slice (some ⟨g, 0, none⟩) m m) ((List.range m).map V)
  row : ∀ j, j < m → OwnV E w B (V j) (ints (zs (L j)))
  away : ∀ j, j < m → (V j).ownBlock ≠ some g
  apart : ∀ i j, i < m → j < m → i ≠ j → ∀ k, (V i).ownBlock = some k → (V j).ownBlock ≠ some k
theorem RowsOf.lt {E2 E : TypeId} {w : World} {B g m : Nat} {V : Nat → Value} {L : Nat → List Nat} (h : RowsOf E2 E w B g m V L) : B ≤ g ∧ g < w.heap.size := own_block h.top g rfl
theorem RowsOf.cell {E2 E : TypeId} {w : World} {B g m : Nat} {V : Nat → Value} {L : Nat → List Nat} (h : RowsOf E2 E w B g m V L) {j : Nat} (hj : j < m) : w.cell? ⟨g, j, none⟩ = some (V j) ∧ w.frozen? ⟨g, j, none⟩ = false := by
  have hv : (Value.slice (some ⟨g, 0, none⟩) m m) = .slice (some ⟨g, 0, none⟩) ((List.range m).map V).length m := by simp
  exact own_cell h.top hv (by simp [hj])
theorem RowsOf.start {E2 E : TypeId} {w' : World} {B g m : Nat} (h : OwnV E2 w' B (.slice (some ⟨g, 0, none⟩) m m) (List.replicate m (.slice none 0 0))) : RowsOf E2 E w' B g m (fun _ => .slice none 0 0) (fun _ => []) := by
  refine ⟨?_, fun j _ => own_nil _ _, fun j _ e => (nomatch (show (none : Option Nat) = some g from e)), fun i j _ _ _ k hk => (nomatch (show (none : Option Nat) = some k from hk))⟩
  have e : (List.range m).map (fun _ => Value.slice none 0 0) = List.replicate m (.slice none 0 0) := by rw [List.map_const', List.length_range]
  rw [e]
  exact h
theorem RowsOf.congr {E2 E : TypeId} {w : World} {B g m : Nat} {V : Nat → Value} {L L' : Nat → List Nat} (h : RowsOf E2 E w B g m V L) (hl : ∀ j, j < m → L j = L' j) : RowsOf E2 E w B g m V L' :=
  ⟨h.top, fun j hj => by rw [← hl j hj]; exact h.row j hj, h.away, h.apart⟩
theorem RowsOf.step {E2 E : TypeId} {w w' : World} {B g m : Nat} {V : Nat → Value} {L : Nat → List Nat} (h : RowsOf E2 E w B g m V L) {k s : Nat} (hk : k < m) {v' : Value}
    (h1 : OwnV E w' B v' (ints (zs (L k) ++ [(s : Int)]))) (hg : w.grownBy w' (V k).ownBlock) (hb : v'.ownBlock = (V k).ownBlock ∨ v'.ownBlock = some (w.heap.size + 1)) :
    RowsOf E2 E (w'.setCell ⟨g, k, none⟩ v') B g m (fun j => if j = k then v' else V j) (fun j => if j = k then L k ++ [s] else L j) := by
  obtain ⟨hBg, hgw⟩ := h.lt
  have hv : v'.ownBlock ≠ some g := by
    rcases hb with e | e
    · rw [e]; exact h.away k hk
    · rw [e]
      intro hh
      have := Option.some.inj hh
      omega
  have hold : ∀ j, j < m → ∀ x, (V j).ownBlock = some x → x < w.heap.size := fun j hj x hx => (own_block (h.row j hj) x hx).2
  have hvj : ∀ j, j < m → j ≠ k → ∀ x, v'.ownBlock = some x → (V j).ownBlock ≠ some x := by
    intro j hj hne x hx
    rcases hb with e | e
    · rw [e] at hx
      exact h.apart k j hk hj (fun e => hne e.symm) x hx
    · rw [e] at hx
      intro hh
      have h3 := Option.some.inj hx
      have h2 := hold j hj x hh
      omega
  constructor
  · have h2 := own_grown h.top hg (fun x hx => by
      have : x = g := (Option.some.inj (show some g = some x from hx)).symm
      subst this
      exact h.away k hk)
    have hv2 : (Value.slice (some ⟨g, 0, none⟩) m m) = .slice (some ⟨g, 0, none⟩) ((List.range m).map V).length m := by simp
    have h3 := own_set h2 hv2 k v'
    have e : ((List.range m).map V).set k v' = (List.range m).map (fun j => if j = k then v' else V j) := by
      apply List.ext_getElem?
      intro j
      by_cases e : j = k
      · subst e
        rw [List.getElem?_set_self (by simpa using hk)]
        simp [hk]
      · rw [List.getElem?_set_ne (fun h => e h.symm)]
        by_cases hj : j < m
        · simp [hj, e]
        · rw [List.getElem?_eq_none (by simp; omega), List.getElem?_eq_none (by simp; omega)]
    rw [e] at h3
    exact h3
  · intro j hj
    by_cases e : j = k
    · subst e
      simp only [if_true]
      rw [zs_snoc]
      exact own_setNe h1 (fun x hx e => hv (by rw [hx, e])) _ _
    · simp only [if_neg e]
      refine own_setNe (own_grown (h.row j hj) hg (fun x hx hh => h.apart k j hk hj (fun e2 => e e2.symm) x hh hx)) (fun x hx e2 => h.away j hj (by rw [hx, e2])) _ _
  · intro j hj
    by_cases e : j = k
    · subst e
      simp only [if_true]
      exact hv
    · simp only [if_neg e]
      exact h.away j hj
  · intro i j hi hj hne x hx
    by_cases e : i = k
    · subst e
      simp only [if_true] at hx
      simp only [if_neg (fun e2 => hne e2.symm : ¬ j = i)]
      exact hvj j hj (fun e2 => hne e2.symm) x hx
    · simp only [if_neg e] at hx
      by_cases e2 : j = k
      · subst e2
        simp only [if_true]
        intro hh
        exact hvj i hi e x hh hx
      · simp only [if_neg e2]
        exact h.apart i j hi hj hne x hx
theorem RowsOf.below {E2 E : TypeId} {w w' : World} {B g m : Nat} {V : Nat → Value} {L : Nat → List Nat} (h : RowsOf E2 E w B g m V L) (hb : Below w.heap.size w w') : RowsOf E2 E w' B g m V L :=
  ⟨own_below h.top hb, fun j hj => own_below (h.row j hj) hb, h.away, h.apart⟩
theorem RowsOf.mono {E2 E : TypeId} {w : World} {B B' g m : Nat} {V : Nat → Value} {L : Nat → List Nat} (h : RowsOf E2 E w B g m V L) (hB : B' ≤ B) : RowsOf E2 E w B' g m V L :=
  ⟨own_mono h.top hB, fun j hj => own_mono (h.row j hj) hB, h.away, h.apart⟩
/-- One of the rows, and what is left of it when other memory turns. -/
theorem RowsOf.below_step {w w' : World} {B g : Nat} {row : Option Nat} (hg : w.grownBy w' row) (hB : B ≤ w.heap.size) (hr : ∀ k, row = some k → B ≤ k) (hBg : B ≤ g) (k : Nat) (u : Value) : Below B w (w'.setCell ⟨g, k, none⟩ u) :=
  (grown_below hg hB hr).setCell (by exact hBg) u
/-- The cell that the new row is stored into. -/
theorem RowsOf.storeAt {E2 E : TypeId} {w w' : World} {B g m : Nat} {V : Nat → Value} {L : Nat → List Nat} (h : RowsOf E2 E w B g m V L) {k : Nat} (hk : k < m) (hg : w.grownBy w' (V k).ownBlock) :
    w'.cell? ⟨g, k, none⟩ = some (V k) ∧ w'.frozen? ⟨g, k, none⟩ = false := by
  have h2 := own_grown h.top hg (fun x hx => by
    have : x = g := (Option.some.inj (show some g = some x from hx)).symm
    subst this
    exact h.away k hk)
  have hv : (Value.slice (some ⟨g, 0, none⟩) m m) = .slice (some ⟨g, 0, none⟩) ((List.range m).map V).length m := by simp
  exact own_cell h2 hv (by simp [hk])
/-- The call returns a slice of rows of its own. -/
def RetRows (E2 E : TypeId) (w : World) (m : Nat) (L : Nat → List Nat) (e : Ending) (w' : World) : Prop := ∃ g V, e = .returned (.slice (some ⟨g, 0, none⟩) m m) ∧ RowsOf E2 E w' w.heap.size g m V L ∧ Below w.heap.size w w'
end

/- Walks: the cursor of the draws: l1New, l1Byte, l1Below, l1Once, l1Pick, l1PickInt. -/
section
open Go.RowKit

abbrev BytesAt (w : World) (B : Nat) (v : Value) (L : List UInt8) : Prop := ReadsV w B v (bytesV L)
/-- The block p is a cursor over the bytes L, which v reads as. -/
def CurAt (W : World) (p : Nat) (v : Value) (L : List UInt8) : Prop :=
  (∃ i h : Int, 0 ≤ i ∧ i ≤ (L.length : Int) ∧ W.cell? ⟨p, 0, none⟩ = some v ∧ W.cell? ⟨p, 1, none⟩ = some (.int .i64 i) ∧ W.cell? ⟨p, 2, none⟩ = some (.int .i64 h)) ∧ W.frozen? ⟨p, 1, none⟩ = false ∧ W.frozen? ⟨p, 2, none⟩ = false ∧ BytesAt W p v L
theorem CurAt.lt {W : World} {p : Nat} {v : Value} {L : List UInt8} (h : CurAt W p v L) : p < W.heap.size := by
  obtain ⟨⟨i, h, _, _, h0, _⟩, _⟩ := h
  exact World.block_lt_of_cell? _ _ h0
theorem CurAt.to {W W' : World} {p : Nat} {v : Value} {L : List UInt8} (h : CurAt W p v L) (k : Below W.heap.size W W') : CurAt W' p v L := by
  have hl := h.lt
  obtain ⟨⟨i, x, i0, i1, h0, h1, h2⟩, f1, f2, hr⟩ := h
  obtain ⟨hc, hf⟩ := bcell k
  exact ⟨⟨i, x, i0, i1, (hc p 0 hl).trans h0, (hc p 1 hl).trans h1, (hc p 2 hl).trans h2⟩, (hf p 1 hl).trans f1, (hf p 2 hl).trans f2, hr.keep fun b o hb => hc b o (by omega)⟩
theorem CurAt.set2 {W : World} {p : Nat} {v : Value} {L : List UInt8} (h : CurAt W p v L) (x : Int) : CurAt (W.setCell ⟨p, 2, none⟩ (.int .i64 x)) p v L := by
  have hB : Below p W (W.setCell ⟨p, 2, none⟩ (.int .i64 x)) := (Below.refl p W).setCell (Nat.le_refl _) _
  obtain ⟨⟨i, y, i0, i1, h0, h1, h2⟩, f1, f2, hr⟩ := h
  refine ⟨⟨i, x, i0, i1, by simp [go_sem, h0], by simp [go_sem, h1], by simp [go_sem, h2]⟩, by simp [go_sem, f1], by simp [go_sem, f2], hr.keep fun b o hb => hB.cell (p := ⟨b, o, none⟩) hb⟩
theorem CurAt.set1 {W : World} {p : Nat} {v : Value} {L : List UInt8} (h : CurAt W p v L) {x : Int} (hx : 0 ≤ x ∧ x ≤ (L.length : Int)) : CurAt (W.setCell ⟨p, 1, none⟩ (.int .i64 x)) p v L := by
  have hB : Below p W (W.setCell ⟨p, 1, none⟩ (.int .i64 x)) := (Below.refl p W).setCell (Nat.le_refl _) _
  obtain ⟨⟨i, y, i0, i1, h0, h1, h2⟩, f1, f2, hr⟩ := h
  refine ⟨⟨x, y, hx.1, hx.2, by simp [go_sem, h0], by simp [go_sem, h1], by simp [go_sem, h2]⟩, by simp [go_sem, f1], by simp [go_sem, f2], hr.keep fun b o hb => hB.cell (p := ⟨b, o, none⟩) hb⟩
theorem and255 (a : Int) : ∃ n : Nat, n ≤ 255 ∧ bits BinOp.and IntKind.i64 a 255 = (n : Int) := by
  refine ⟨((BitVec.ofInt 64 a) &&& (BitVec.ofInt 64 255)).toNat, ?_, ?_⟩
  · rw [BitVec.toNat_and]
    exact Nat.le_trans Nat.and_le_right (by decide)
  · have h : ((BitVec.ofInt 64 a) &&& (BitVec.ofInt 64 255)).toNat ≤ 255 := by
      rw [BitVec.toNat_and]
      exact Nat.le_trans Nat.and_le_right (by decide)
    show IntKind.i64.wrap (((BitVec.ofInt 64 a &&& BitVec.ofInt 64 255).toNat : Nat) : Int) = _
    exact IntWalk.i64_in _ (by omega)
/-- The call returns an int of 0 .. 255 and has moved the cursor p. -/
def RetX (W : World) (p : Nat) (v : Value) (L : List UInt8) (e : Ending) (W' : World) : Prop := ∃ x : Nat, x ≤ 255 ∧ e = .returned (.int .i64 (x : Int)) ∧ CurAt W' p v L ∧ W.grownBy W' (some p)

theorem l1ByteS (p : Nat) (v : Value) (L : List UInt8) (W : World) (h : CurAt W p v L) (hL : L.length ≤ 1073741824) :
    Calls Tryz.prog 74 #[.pointer (some ⟨p, 0, none⟩)] W fun e W' => RetX W p v L e W' := by
  have H := hide h
  obtain ⟨⟨i, x, i0, i1, h0, h1, h2⟩, f1, f2, hr⟩ := h
  obtain ⟨A, c, hv, hc, hcell⟩ := hr
  have hl : (bytesV L).length = L.length := List.length_map _
  rw [hl] at hv hc hcell
  subst hv
  by_cases hi : i < (L.length : Int)
  · obtain ⟨k, rfl⟩ := Int.eq_ofNat_of_zero_le i0
    have hk : k < L.length := by omega
    obtain ⟨b, o, hA, hb, hcl⟩ := hcell (by omega)
    subst hA
    obtain ⟨y, hy⟩ : ∃ y, L[k]? = some y := ⟨_, List.getElem?_eq_getElem hk⟩
    have hyc := hcl k (.int .u8 (y.toNat : Int)) (by simp [bytesV, hy])
    have hbp : b ≠ p := by omega
    clear hcell hcl hy
    go_enter Tryz.func74, Tryz.ntmps74
    go_wp2
    go_quiet (fail)
    go_wp2
    go_quiet (fail)
    go_wp2
    go_quiet (fail)
    go_wp2
    go_ret
    obtain ⟨q, hq, e⟩ := and255 _
    exact ⟨q, hq, ret_int e, (H.out.set2 _).set1 (by omega), grown_setCell (grown_drewN (grown_setCell (grown_refl _ _) _ _) _) _ _⟩
  · obtain rfl : i = (L.length : Int) := by omega
    clear hcell hi i1
    go_enter Tryz.func74, Tryz.ntmps74
    go_wp2
    go_quiet (fail)
    go_wp2
    go_quiet (fail)
    go_wp2
    go_ret
    obtain ⟨q, hq, e⟩ := and255 _
    exact ⟨q, hq, ret_int e, H.out.set2 _, by first | exact grown_drewN (grown_setCell (grown_refl _ _) _ _) _ | exact grown_drewN (grown_drewN (grown_setCell (grown_refl _ _) _ _) _) _ | exact grown_drewN (grown_setCell (grown_drewN (grown_setCell (grown_refl _ _) _ _) _) _ _) _⟩

/-- The call returns an int below n, or naught, and has moved the cursor p. -/
def RetK (W : World) (p : Nat) (v : Value) (L : List UInt8) (n : Int) (e : Ending) (W' : World) : Prop := ∃ r : Nat, (0 < n → (r : Int) < n) ∧ (n ≤ 0 → r = 0) ∧ e = .returned (.int .i64 (r : Int)) ∧ CurAt W' p v L ∧ W.grownBy W' (some p)
theorem l1BelowS (p : Nat) (v : Value) (L : List UInt8) (n : Int) (W : World) (h : CurAt W p v L) (hL : L.length ≤ 1073741824) (hn : n ≤ 9223372036854775807) :
    Calls Tryz.prog 52 #[.pointer (some ⟨p, 0, none⟩), .int .i64 n] W fun e W' => RetK W p v L n e W' := by
  have H := hide h
  clear h
  by_cases h0 : n ≤ 0
  · go_enter Tryz.func52, Tryz.ntmps52
    go_wp2
    go_ret
    exact ⟨0, fun h => by omega, fun _ => rfl, rfl, H.out, grown_refl _ _⟩
  · by_cases h1 : n ≤ 256
    · go_enter Tryz.func52, Tryz.ntmps52
      go_wp2_with fail
      refine (l1ByteS p v L W H.out hL).mono ?_
      rintro e w1 ⟨x, hx, rfl, c1, g1⟩
      have C1 := hide c1
      have G1 := hide g1
      clear c1 g1
      go_wp2
      go_ret
      refine ⟨x % n.toNat, fun _ => ?_, fun h => by omega, ret_int ?_, C1.out, G1.out⟩
      · have := Nat.mod_lt x (show 0 < n.toNat by omega)
        omega
      · obtain ⟨k, rfl⟩ := Int.eq_ofNat_of_zero_le (show 0 ≤ n by omega)
        rw [Int.toNat_natCast]
        rfl
    · go_enter Tryz.func52, Tryz.ntmps52
      go_wp2_with fail
      refine (l1ByteS p v L W H.out hL).mono ?_
      rintro e w1 ⟨x, hx, rfl, c1, g1⟩
      have C1 := hide c1
      have G1 := hide g1
      clear c1 g1
      go_wp2_with fail
      refine (l1ByteS p v L w1 C1.out hL).mono ?_
      rintro e w2 ⟨y, hy, rfl, c2, g2⟩
      have C2 := hide c2
      have G2 := hide (grown_trans G1.out g2)
      clear c2 g2
      go_wp2_with fail
      refine (l1ByteS p v L w2 C2.out hL).mono ?_
      rintro e w3 ⟨z, hz, rfl, c3, g3⟩
      have C3 := hide c3
      have G3 := hide (grown_trans G2.out g3)
      clear c3 g3
      go_wp2_with fail
      refine (l1ByteS p v L w3 C3.out hL).mono ?_
      rintro e w4 ⟨u, hu, rfl, c4, g4⟩
      have C4 := hide c4
      have G4 := hide (grown_trans G3.out g4)
      clear c4 g4
      go_wp2
      go_ret
      refine ⟨(x * 16777216 + y * 65536 + z * 256 + u) % n.toNat, fun _ => ?_, fun h => by omega, ret_int ?_, C4.out, G4.out⟩
      · have := Nat.mod_lt (x * 16777216 + y * 65536 + z * 256 + u) (show 0 < n.toNat by omega)
        omega
      · obtain ⟨k, rfl⟩ := Int.eq_ofNat_of_zero_le (show 0 ≤ n by omega)
        rw [Int.toNat_natCast, Int.natCast_emod]
        congr 1
theorem l1OnceS (p : Nat) (v : Value) (L : List UInt8) (n : Int) (W : World) (h : CurAt W p v L) (hL : L.length ≤ 1073741824) (hn : n ≤ 9223372036854775807) :
    Calls Tryz.prog 50 #[.pointer (some ⟨p, 0, none⟩), .int .i64 n] W fun e W' => ∃ b : Bool, e = .returned (.bool b) ∧ CurAt W' p v L ∧ W.grownBy W' (some p) := by
  have H := hide h
  clear h
  go_enter Tryz.func50, Tryz.ntmps50
  go_wp2_with fail
  refine (l1BelowS p v L n W H.out hL hn).mono ?_
  rintro e w1 ⟨r, _, _, rfl, c1, g1⟩
  have C1 := hide c1
  have G1 := hide g1
  clear c1 g1
  go_wp2
  go_ret
  exact ⟨_, rfl, C1.out, G1.out⟩
theorem l1PickS (p : Nat) (v : Value) (L : List UInt8) (u : Value) (ls : List (List UInt8)) (W : World) (h : CurAt W p v L) (hL : L.length ≤ 1073741824) (hr : StrsAt W W.heap.size u ls) (h0 : 0 < ls.length) (h1 : ls.length ≤ 1048576) (hne : ∀ j, u.ownBlock = some j → j ≠ p) (hb : ∀ b o n c, u = .slice (some ⟨b, o, none⟩) n c → b ≠ p) :
    Calls Tryz.prog 68 #[.pointer (some ⟨p, 0, none⟩), u] W fun e W' => ∃ l : List UInt8, l ∈ ls ∧ e = .returned (.string ⟨l.toArray⟩) ∧ CurAt W' p v L ∧ W.grownBy W' (some p) := by
  obtain ⟨A, c, rfl, hc, he⟩ := formS_ hr
  have H := hide h
  have He := hide he
  clear h he hr hne
  go_enter Tryz.func68, Tryz.ntmps68
  go_wp2_with fail
  refine (l1BelowS p v L _ W H.out hL (by omega)).mono ?_
  rintro e w1 ⟨r, hr1, _, rfl, c1, g1⟩
  have hr2 := hr1 (by omega)
  have hr3 : r < ls.length := by omega
  obtain ⟨b, o, x, rfl, hbl, hx, hcell⟩ := He.out r hr3
  have hbp : b ≠ p := hb b o _ _ rfl
  have hc1 := g1.cell hcell (fun e => hbp (Option.some.inj e))
  have C1 := hide c1
  have G1 := hide g1
  clear c1 g1 hcell hr1 hr2
  go_wp2
  go_ret
  exact ⟨x, List.mem_of_getElem? hx, rfl, C1.out, G1.out⟩
theorem l1PickIntS (p : Nat) (v : Value) (L : List UInt8) (u : Value) (xs : List Int) (W : World) (h : CurAt W p v L) (hL : L.length ≤ 1073741824) (hr : IntsAt W W.heap.size u xs) (h0 : 0 < xs.length) (h1 : xs.length ≤ 1048576) (hb : ∀ b o n c, u = .slice (some ⟨b, o, none⟩) n c → b ≠ p) :
    Calls Tryz.prog 41 #[.pointer (some ⟨p, 0, none⟩), u] W fun e W' => ∃ x : Int, x ∈ xs ∧ e = .returned (.int .i64 x) ∧ CurAt W' p v L ∧ W.grownBy W' (some p) := by
  obtain ⟨A, c, rfl, hc, he⟩ := form_ hr
  have H := hide h
  have He := hide he
  clear h he hr
  go_enter Tryz.func41, Tryz.ntmps41
  go_wp2_with fail
  refine (l1BelowS p v L _ W H.out hL (by omega)).mono ?_
  rintro e w1 ⟨r, hr1, _, rfl, c1, g1⟩
  have hr2 := hr1 (by omega)
  have hr3 : r < xs.length := by omega
  obtain ⟨b, o, x, rfl, hbl, hx, hcell⟩ := He.out r hr3
  have hbp : b ≠ p := hb b o _ _ rfl
  have hc1 := g1.cell hcell (fun e => hbp (Option.some.inj e))
  have C1 := hide c1
  have G1 := hide g1
  clear c1 g1 hcell hr1 hr2
  go_wp2
  go_ret
  exact ⟨x, List.mem_of_getElem? hx, rfl, C1.out, G1.out⟩
theorem newCur {w : World} {v : Value} {L : List UInt8} (h : BytesAt w w.heap.size v L) (x : Int) (T : TypeId) : CurAt (w.alloc (.cells #[v, .int .i64 0, .int .i64 x] T)) w.heap.size v L :=
  ⟨⟨0, x, Int.le_refl _, by omega, World.cell?_alloc_at _ _ _ _ rfl, World.cell?_alloc_at _ _ _ _ rfl, World.cell?_alloc_at _ _ _ _ rfl⟩, by simp [go_sem], by simp [go_sem], h.keep fun b o hb => (below_alloc w _).cell (p := ⟨b, o, none⟩) hb⟩
/-- The call returns a cursor of its own. -/
def RetCur (w : World) (v : Value) (L : List UInt8) (e : Ending) (w' : World) : Prop := ∃ p, e = .returned (.pointer (some ⟨p, 0, none⟩)) ∧ w.heap.size ≤ p ∧ CurAt w' p v L ∧ Below w.heap.size w w'
set_option maxRecDepth 100000 in
theorem l1NewS (v : Value) (L : List UInt8) (w : World) (h : BytesAt w w.heap.size v L) (hL : L.length ≤ 1073741824) :
    Calls Tryz.prog 32 #[v] w fun e w' => RetCur w v L e w' := by
  have H := hide h
  obtain ⟨A, c, hv, hc, hcell⟩ := h
  have hl : (bytesV L).length = L.length := List.length_map _
  rw [hl] at hv hc hcell
  subst hv
  have Hc := hide hcell
  clear hcell hc hl
  go_enter Tryz.func32, Tryz.ntmps32
  go_wp2
  go_loop [3, 4] (fun h i => ∃ (k : Nat) (x : Int), k ≤ L.length ∧ i = .int .i64 k ∧ h = .int .i64 x) (fun _ i => L.length - (intOf i).toNat)
  case atStart => exact ⟨0, _, by omega, rfl, rfl⟩
  case round =>
    obtain ⟨k, x, hk, rfl, rfl⟩ := hrel
    by_cases hlt : k < L.length
    · by_cases h4 : k < 4000
      · obtain ⟨b, o, rfl, hb, hcl⟩ := Hc.out (by omega)
        obtain ⟨y, hy⟩ : ∃ y, L[k]? = some y := ⟨_, List.getElem?_eq_getElem hlt⟩
        have hyc := hcl k (.int .u8 (y.toNat : Int)) (by simp [bytesV, hy])
        clear hcl hy
        go_wp2
        go_round
        case rel => exact ⟨k + 1, _, by omega, by go_num, rfl⟩
        case measure => simp [intOf]; omega
      · have h4' : 4000 ≤ k := by omega
        clear h4
        have hd : decide ((k : Int) < 4000) = false := decide_eq_false (by omega)
        go_wp2
        go_ret
        exact ⟨_, rfl, Nat.le_refl _, newCur H.out _ _, below_alloc _ _⟩
    · have h5 : L.length ≤ k := by omega
      clear hlt
      have hd : decide ((k : Int) < (L.length : Int)) = false := decide_eq_false (by omega)
      go_wp2
      go_ret
      exact ⟨_, rfl, Nat.le_refl _, newCur H.out _ _, below_alloc _ _⟩
end

/- Walks: the points of a set, in the program and in the reference. -/
section
open Go.RowKit

/-- The points below k of the set s. -/
def pts (s : Nat) (k : Nat) : List Int := ((List.range k).filter (fun i => s.testBit i)).map Int.ofNat
theorem pts_len (s k : Nat) : (pts s k).length ≤ k := by
  have := List.length_filter_le (fun i => s.testBit i) (List.range k)
  simpa [pts] using this
theorem pts_yes (s k : Nat) (h : s.testBit k = true) : pts s (k + 1) = pts s k ++ [(k : Int)] := by simp [pts, List.range_succ, h]
theorem pts_no (s k : Nat) (h : s.testBit k = false) : pts s (k + 1) = pts s k := by simp [pts, List.range_succ, h]
theorem bit_at (s k : Nat) (b : Bool) (hs : s < 9223372036854775808) (h : s.testBit k = b) : (bits BinOp.and IntKind.i64 ((s : Int) / 2 ^ k) 1 == 1) = b := by
  have e : ((s : Int) / 2 ^ k) = ((s / 2 ^ k : Nat) : Int) := by simp
  have hle : s / 2 ^ k ≤ s := Nat.div_le_self _ _
  rw [e, show (1 : Int) = ((1 : Nat) : Int) from rfl, i64_and _ _ (by omega) (by omega), nat_mask1, ← h, Nat.testBit_eq_decide_div_mod_eq]
  generalize s / 2 ^ k % 2 = q
  by_cases hq : q = 1
  · simp [hq]
  · have h2 : ¬ ((q : Int) = 1) := by omega
    simp [hq, h2]

/-- The points of s; of what is no set, none. -/
def ptsOf (s : Int) : List Int := if 0 ≤ s ∧ s < 64 then pts s.toNat 6 else []
theorem ptsOf_yes {s : Nat} (h : s < 64) : ptsOf s = pts s 6 := by simp [ptsOf]; omega
theorem ptsOf_no {s : Int} (h : ¬ (0 ≤ s ∧ s < 64)) : ptsOf s = [] := by simp [ptsOf, h]

theorem ptsOf_len (s : Int) : (ptsOf s).length ≤ 6 := by
  unfold ptsOf
  split
  · exact pts_len _ _
  · simp

theorem pointsOfI (s : Int) (w : World) : Calls Tryz.prog 85 #[.int .i64 s] w fun e w' => RetI 3 w (ptsOf s) e w' := by
  by_cases hs : 0 ≤ s ∧ s < 64
  · obtain ⟨h0, h1⟩ := hs
    obtain ⟨s, rfl⟩ := Int.eq_ofNat_of_zero_le h0
    have h2 : s < 64 := by omega
    have h : isSetB 6 s = true := by rw [isSetB_six]; exact decide_eq_true ⟨h0, h1⟩
    rw [ptsOf_yes h2]
    go_enter Tryz.func85, Tryz.ntmps85
    go_wp2_with (go_at_call 54; refine (isSetI _ _ _).mono ?_; rintro e w' ⟨rfl, rfl⟩)
    go_loopw [3, 4] (fun v i wr => ∃ k : Nat, k ≤ 6 ∧ i = .int .i64 k ∧ OwnV 3 wr w.heap.size v (ints (pts s k)) ∧ Below w.heap.size w wr) (fun _ i _ => 6 - (intOf i).toNat)
    case atStart => exact ⟨0, by omega, rfl, own_nil _ _, Below.refl _ _⟩
    case round =>
      obtain ⟨k, hk, rfl, hown, hb⟩ := hrel
      by_cases hlt : k < 6
      · have hl := pts_len s k
        cases hbit : s.testBit k
        · have hb2 := bit_at s k _ (by omega) hbit
          have hp := hide (pts_no s k hbit)
          clear hbit
          go_wp2
          go_roundw
          case rel => exact ⟨k + 1, by omega, by go_num, by rw [hp.out]; exact hown, hb⟩
          case measure => simp [intOf]; omega
        · have hb2 := bit_at s k _ (by omega) hbit
          have hp := hide (pts_yes s k hbit)
          clear hbit
          go_wp2_with (at_builtin; refine wpList_appI hown k Tryz.underlying24 infoI rfl _ _ rfl rfl rfl (by omega) hb.size ?_; intro v' w1 hown1 hb1 _)
          go_roundw
          case rel => exact ⟨k + 1, by omega, by go_num, by rw [hp.out]; exact hown1, hb.trans hb1⟩
          case measure => simp [intOf]; omega
      · obtain rfl : k = 6 := by omega
        go_wp2
        go_ret
        exact ⟨_, rfl, hown, hb⟩
  · have h : isSetB 6 s = false := by rw [isSetB_six]; exact decide_eq_false hs
    rw [ptsOf_no hs]
    go_enter Tryz.func85, Tryz.ntmps85
    go_wp2_with (go_at_call 54; refine (isSetI _ _ _).mono ?_; rintro e w' ⟨rfl, rfl⟩)
    go_ret
    exact ⟨_, rfl, own_nil _ _, Below.refl _ _⟩
end

/- Walks: SetText, in the program and in the reference. -/
section
open Go.RowKit

/-- The text of s; of what is no set, the empty one. -/
def setTxtOf (s : Int) : List UInt8 := if 0 ≤ s ∧ s < 64 then setTxt s.toNat else []
theorem setTxtOf_yes {s : Nat} (h : s < 64) : setTxtOf s = setTxt s := by simp [setTxtOf]; omega
theorem setTxtOf_no {s : Int} (h : ¬ (0 ≤ s ∧ s < 64)) : setTxtOf s = [] := by simp [setTxtOf, h]

theorem abc_app (l : List UInt8) (k : Nat) (h : k < 6) : ((⟨l.toArray⟩ : ByteArray) ++ (⟨#[97, 98, 99, 100, 101, 102]⟩ : ByteArray).extract k (k + 1)) = ⟨(l ++ [UInt8.ofNat (97 + k)]).toArray⟩ := by
  have e : (⟨#[97, 98, 99, 100, 101, 102]⟩ : ByteArray).extract k (k + 1) = ⟨#[UInt8.ofNat (97 + k)]⟩ := by
    match k, h with
    | 0, _ | 1, _ | 2, _ | 3, _ | 4, _ | 5, _ => rfl
  rw [e]
  apply ByteArray.ext
  simp

theorem setTextS (s : Int) (w : World) : Calls Tryz.prog 81 #[.int .i64 s] w fun e w' => RetS w (setTxtOf s) e w' := by
  by_cases hs : 0 ≤ s ∧ s < 64
  · obtain ⟨h0, h1⟩ := hs
    obtain ⟨s, rfl⟩ := Int.eq_ofNat_of_zero_le h0
    have h2 : s < 64 := by omega
    have h : inB s 0 63 = true := inB_mk ⟨h0, by omega⟩
    rw [setTxtOf_yes h2]
    by_cases hz : s = 0
    · subst hz
      have h : inB 0 0 63 = true := inB_mk ⟨by omega, by omega⟩
      go_enter Tryz.func81, Tryz.ntmps81
      go_wp2_with (go_at_call 47; refine (l1InS _ _ _ _).mono ?_; rintro e w' ⟨rfl, rfl⟩)
      go_ret
      exact ⟨rfl, Below.refl _ _⟩
    · have hz2 : ((s : Int) == 0) = false := by simp; omega
      have Hz := hide (show setTxt s = txtTo s 6 by simp [setTxt, hz])
      clear hz
      go_enter Tryz.func81, Tryz.ntmps81
      go_wp2_with (go_at_call 47; refine (l1InS _ _ _ _).mono ?_; rintro e w' ⟨rfl, rfl⟩)
      go_loop [3, 4] (fun t i => ∃ k : Nat, k ≤ 6 ∧ i = .int .i64 k ∧ t = .string ⟨(txtTo s k).toArray⟩) (fun _ i => 6 - (intOf i).toNat)
      case atStart => exact ⟨0, by omega, rfl, rfl⟩
      case round =>
        obtain ⟨k, hk, rfl, rfl⟩ := hrel
        by_cases hlt : k < 6
        · have hl := txtTo_len s k
          cases hbit : s.testBit k
          · have hb2 := bit_at s k _ (by omega) hbit
            have hp := hide (txtTo_no s k hbit)
            clear hbit
            go_wp2
            go_round
            case rel => exact ⟨k + 1, by omega, by go_num, by rw [hp.out]⟩
            case measure => simp [intOf]; omega
          · have hb2 := bit_at s k _ (by omega) hbit
            have hp := hide (txtTo_yes s k hbit)
            clear hbit
            go_wp2
            go_round
            case rel => 
              refine ⟨k + 1, by omega, by go_num, ?_⟩
              rw [hp.out, abc_app _ _ hlt]
            case measure => simp [intOf]; omega
        · obtain rfl : k = 6 := by omega
          go_wp2
          go_ret
          exact ⟨by rw [Hz.out]; rfl, Below.refl _ _⟩
  · have h : inB s 0 63 = false := inB_no (fun h => hs ⟨h.1, by omega⟩)
    rw [setTxtOf_no hs]
    go_enter Tryz.func81, Tryz.ntmps81
    go_wp2_with (go_at_call 47; refine (l1InS _ _ _ _).mono ?_; rintro e w' ⟨rfl, rfl⟩)
    go_ret
    exact ⟨rfl, Below.refl _ _⟩

theorem infoB : (Tryz.prog.info? 5).map (fun i => (i.zero, i.size, i.bytes)) = some (some (.int .u8 0), 1, 1) := by kernel_rfl
theorem pts_get (s k : Nat) (x : Int) (h : (pts s 6)[k]? = some x) : ∃ j : Nat, x = j ∧ j < 6 := by
  have hm := List.mem_of_getElem? h
  simp only [pts, List.mem_map, List.mem_filter, List.mem_range] at hm
  obtain ⟨j, ⟨hj, _⟩, rfl⟩ := hm
  exact ⟨j, rfl, hj⟩
/-- A point's letter. -/
def letter (x : Int) : UInt8 := UInt8.ofNat (97 + x.toNat)
theorem letters (s : Nat) : (pts s 6).map letter = txtTo s 6 := by
  simp [pts, txtTo, letter, List.map_map, Function.comp_def]
theorem letter_val (j : Nat) (h : j < 6) : ((letter (j : Int)).toNat : Int) = 97 + (j : Int) := by
  match j, h with
  | 0, _ | 1, _ | 2, _ | 3, _ | 4, _ | 5, _ => rfl

theorem setTextI (s : Int) (w : World) : Calls Tryz.prog 79 #[.int .i64 s] w fun e w' => RetS w (setTxtOf s) e w' := by
  by_cases hs : 0 ≤ s ∧ s < 64
  · obtain ⟨h0, h1⟩ := hs
    obtain ⟨s, rfl⟩ := Int.eq_ofNat_of_zero_le h0
    have h2 : s < 64 := by omega
    have h : isSetB 6 s = true := by rw [isSetB_six]; exact decide_eq_true ⟨h0, h1⟩
    rw [setTxtOf_yes h2]
    by_cases hz : s = 0
    · subst hz
      have h : isSetB 6 0 = true := by rw [isSetB_six]; rfl
      go_enter Tryz.func79, Tryz.ntmps79
      go_wp2_with (go_at_call 54; refine (isSetI _ _ _).mono ?_; rintro e w' ⟨rfl, rfl⟩)
      go_ret
      exact ⟨rfl, Below.refl _ _⟩
    · have hz2 : ((s : Int) == 0) = false := by simp; omega
      have Hz := hide (show setTxt s = (pts s 6).map letter by simp [letters, setTxt, hz])
      clear hz
      have hmk : ∀ w, (Instr.makeSlice 22 (.int .i64 0) (.int .i64 6)).run Tryz.prog w = .ok (.slice (some ⟨w.heap.size, 0, none⟩) 0 6) (w.alloc (.cells #[.int .u8 0, .int .u8 0, .int .u8 0, .int .u8 0, .int .u8 0, .int .u8 0] 5)) := fun _ => by kernel_rfl
      have hpo := ptsOf_yes h2
      have Hlen := pts_len s 6
      go_enter Tryz.func79, Tryz.ntmps79
      go_wp2_with (go_at_call 54; refine (isSetI _ _ _).mono ?_; rintro e w' ⟨rfl, rfl⟩)
      refine (pointsOfI _ _).mono ?_
      rw [hpo]
      rintro e w1 ⟨vp, rfl, op, b1⟩
      have bw := (below_alloc w _).trans (b1.mono (by simp))
      have ob := own_below (World.ownsRow_made (base := w.heap.size) (size := 1) (e := 5) w #[.int .u8 0, .int .u8 0, .int .u8 0, .int .u8 0, .int .u8 0, .int .u8 0] 6 (Nat.le_refl _) (by decide) rfl) b1
      obtain ⟨i0, hi, hz0, hz1, hz2'⟩ := info_parts infoB
      rcases own_form op with ⟨rfl, hx⟩ | ⟨g, cap, hv, hg, hgl, hcap⟩
      · have hx0 := hide (show pts s 6 = [] by simpa [ints] using hx)
        clear hx
        have hcv := own_str (P := Tryz.prog) (src := 22) (dst := 9) Tryz.underlying22 Tryz.underlying5 Tryz.underlying9 (l := []) ob
        go_wp2
        refine wp_loop_rounds 1 ?_
        rw [rounds_succ]
        go_wp2
        go_ret
        exact ⟨by rw [Hz.out, hx0.out]; rfl, bw⟩
      · rw [ints_length] at hv hcap
        subst hv
        simp at hg
        have Hop := hide op
        have HB := hide b1
        clear op b1
        go_wp2
        go_loopw [3, 15] (fun v i wr => ∃ k : Nat, k ≤ (pts s 6).length ∧ i = .int .i64 k ∧ v = .slice (some ⟨w.heap.size, 0, none⟩) k 6 ∧ wr.ownsRow w.heap.size 5 1 (.slice (some ⟨w.heap.size, 0, none⟩) k 6) k (bytesV (((pts s 6).take k).map letter)) ∧ w1.grownBy wr (some w.heap.size)) (fun _ i _ => (pts s 6).length - (intOf i).toNat)
        case atStart => exact ⟨0, by omega, rfl, rfl, ob, grown_refl _ _⟩
        case round =>
          obtain ⟨k, hk, rfl, rfl, hown, hgr⟩ := hrel
          by_cases hlt : k < (pts s 6).length
          · obtain ⟨x, hx⟩ : ∃ x, (pts s 6)[k]? = some x := ⟨_, List.getElem?_eq_getElem hlt⟩
            obtain ⟨j, rfl, hj⟩ := pts_get s k x hx
            have hcell : wr.cell? ⟨g, k, none⟩ = some (.int .i64 (j : Int)) := by
              have h1 := (own_cell Hop.out (by rw [ints_length]) (k := k) (u := .int .i64 (j : Int)) (by simp [ints, hx])).1
              exact hgr.cell h1 (by simp; omega)
            have Hs := hide (take_snoc _ _ _ hx)
            have hlv := letter_val j hj
            clear hx
            go_wp2_with (at_builtin; refine wpList_append_fits _ rfl _ _ 22 rfl w.heap.size 5 i0 1 Tryz.underlying22 hi hz1 w.heap.size k 6 _ rfl (hown.alloc _) ⟨wr.heap.size, 0, none⟩ 1 1 [.int .u8 (97 + (j : Int))] rfl rfl ?c1 ?c2 ?c3 ?_; rotate_right; intro w2 hown2 hg2)
            case c1 =>
              intro i u hu
              match i, hu with
              | 0, hu => simp at hu; subst hu; simp [Addr.add]
            case c2 => exact ints_oneCell .u8 [97 + (j : Int)]
            case c3 => omega
            have Ho : Hid (w2.ownsRow w.heap.size 5 1 (.slice (some ⟨w.heap.size, 0, none⟩) (k + 1) 6) (k + 1) (bytesV (((pts s 6).take (k + 1)).map letter))) := by
              rw [Hs.out, List.map_append]
              simpa [bytesV, hlv, Hid] using hown2
            have Hg := hide (grown_trans hgr (grown_trans (World.grownBy_alloc wr _ _) hg2))
            clear hown2 hg2 hgr hcell hown hlv
            go_wp2
            go_roundw
            case rel => exact ⟨k + 1, by omega, by go_num, rfl, Ho.out, Hg.out⟩
            case measure => simp [intOf]; omega
          · have hkl := hide (show k = (pts s 6).length by omega)
            have ho2 : OwnV 5 wr w.heap.size (.slice (some ⟨w.heap.size, 0, none⟩) k 6) (bytesV (((pts s 6).take k).map letter)) := by
              have : (bytesV (((pts s 6).take k).map letter)).length = k := by simp [bytesV]; omega
              unfold OwnV
              rw [this]
              exact hown
            have hcv := own_str (P := Tryz.prog) (src := 22) (dst := 9) Tryz.underlying22 Tryz.underlying5 Tryz.underlying9 ho2
            have Hb := hide (bw.trans (grown_below (B := w.heap.size) hgr (by have := bw.size; omega) (fun i hi => by cases hi; exact Nat.le_refl _)))
            clear ho2 hown hgr
            go_wp2
            go_ret
            exact ⟨ret_str (by rw [Hz.out, List.take_of_length_le (by rw [List.length_map, hkl.out]; exact Nat.le_refl _)]), Hb.out⟩
  · have h : isSetB 6 s = false := by rw [isSetB_six]; exact decide_eq_false hs
    rw [setTxtOf_no hs]
    go_enter Tryz.func79, Tryz.ntmps79
    go_wp2_with (go_at_call 54; refine (isSetI _ _ _).mono ?_; rintro e w' ⟨rfl, rfl⟩)
    go_ret
    exact ⟨rfl, Below.refl _ _⟩
end

/- Walks: Join in the program and in the reference. -/
section
open Go.RowKit

theorem join_first {ls : List (List UInt8)} {y : List UInt8} (sep : List UInt8) (h : ls[0]? = some y) : Lib.join (ls.take 1) sep = y := by
  cases ls with
  | nil => cases h
  | cons x r =>
    have : x = y := by simpa using h
    subst this
    rw [List.take_succ_cons, List.take_zero]
    exact Lib.join_one x sep
theorem join_next {ls : List (List UInt8)} {k : Nat} {y : List UInt8} (sep : List UInt8) (hk : 0 < k) (h : ls[k]? = some y) : Lib.join (ls.take (k + 1)) sep = Lib.join (ls.take k) sep ++ sep ++ y := by
  obtain ⟨j, rfl⟩ : ∃ j, k = j + 1 := ⟨k - 1, by omega⟩
  cases ls with
  | nil => cases h
  | cons x r =>
    have h' : r[j]? = some y := by simpa using h
    rw [List.take_succ_cons, List.take_succ_cons, Lib.join_cons, Lib.join_cons, Lib.joinTail_take_succ sep r j y h']
    simp [List.append_assoc]
theorem joinTail_len (sep : List UInt8) (r : List (List UInt8)) : (Lib.joinTail sep r).length = r.length * sep.length + Lib.lens r := by
  induction r with
  | nil => simp [Lib.joinTail, Lib.lens]
  | cons y r ih =>
    have e1 : Lib.joinTail sep (y :: r) = sep ++ y ++ Lib.joinTail sep r := by simp [Lib.joinTail]
    have e2 : Lib.lens (y :: r) = y.length + Lib.lens r := by simp [Lib.lens]
    rw [e1, List.length_append, List.length_append, ih, e2, List.length_cons, Nat.add_mul]
    omega
theorem join_len (ls : List (List UInt8)) (sep : List UInt8) : (Lib.join ls sep).length ≤ Lib.lens ls + ls.length * sep.length := by
  cases ls with
  | nil => simp [Lib.join_nil]
  | cons x r =>
    have e2 : Lib.lens (x :: r) = x.length + Lib.lens r := by simp [Lib.lens]
    rw [Lib.join_cons, List.length_append, joinTail_len, e2, List.length_cons, Nat.add_mul]
    omega
theorem join_take_len (ls : List (List UInt8)) (sep : List UInt8) (k : Nat) : (Lib.join (ls.take k) sep).length ≤ Lib.lens ls + ls.length * sep.length := by
  refine Nat.le_trans (join_len _ _) ?_
  have h1 := Lib.lens_take_le ls k
  have h2 : (ls.take k).length ≤ ls.length := by rw [List.length_take]; omega
  have h3 := Nat.mul_le_mul_right sep.length h2
  omega
/-- 'append(out, s...)', s a string. -/
theorem wpList_appT {P : Program} {ops : Array Oper} {rest : List Oper} {o : Oper} {a : Act} {Q : Exit → Act → World → Prop} {w : World} {B : Nat} {v : Value} {l : List UInt8} {T U E : TypeId} (hown : OwnV E w B v (bytesV l)) (s : List UInt8)
    (ht : P.underlying T = some (.slice E)) (hu : P.underlying U = some .string) (he : (P.info? E).map (fun i => (i.zero, i.size, i.bytes)) = some (some (.int .u8 0), 1, 1)) (hg : o.guard = none) (sl x : Operand)
    (hop : o.op = Op.call { callee := Callee.builtin Builtin.append, args := #[sl, x], argTypes := #[T, U] }) (hs : a.eval sl = v)
    (hx : a.eval x = .string ⟨s.toArray⟩) (hlen : l.length + s.length ≤ 140737488355328) (hB : B ≤ w.heap.size)
    (hK : ∀ v' w', OwnV E w' B v' (bytesV (l ++ s)) → Below B w w' → wpList P ops Q rest (a.put o.dst v') w') :
    wpList P ops Q (o :: rest) a w := by
  obtain ⟨i0, hi, hz0, hz1, hz2⟩ := info_parts he
  have hl : (bytesV l).length = l.length := List.length_map _
  have hsz : (⟨s.toArray⟩ : ByteArray).size = s.length := by show s.toArray.size = _; simp
  have hcs : Lib.strCells ⟨s.toArray⟩ = bytesV s := by unfold Lib.strCells; simp [bytesV]
  refine Lib.wpList_append_own_string w hg sl x T U hop B E i0 ht hu hi hz0 hz1 hz2 v (bytesV l).length (bytesV l) hs hown ⟨s.toArray⟩ hx ?_ ?_ hB ?_
  · rw [hl, hsz]; unfold maxLen; omega
  · rw [hl, hsz]; exact hlen
  · intro v' w' h1 h2 _
    refine hK v' w' ?_ (grown_below h2 hB (fun k hk => (hown.lt k hk).1))
    rw [hcs, hsz] at h1
    have e : bytesV (l ++ s) = bytesV l ++ bytesV s := by simp [bytesV]
    rw [e]
    show w'.ownsRow B E 1 v' (bytesV l ++ bytesV s).length (bytesV l ++ bytesV s)
    have e2 : (bytesV l ++ bytesV s).length = (bytesV l).length + s.length := by simp
    rw [e2]
    exact h1

theorem stringsJoin (bk o c : Nat) (ls : List (List UInt8)) (sep : List UInt8) (w : World) (hcells : ∀ (j : Nat) l, ls[j]? = some l → w.cell? ⟨bk, o + j, none⟩ = some (.string ⟨l.toArray⟩)) (hbk : bk < w.heap.size) (hN : ls.length ≤ 1073741824) (hcap : ls.length ≤ c) (hlen : Lib.lens ls + ls.length * sep.length ≤ 70368744177664) :
    Calls Tryz.prog 80 #[.slice (some ⟨bk, o, none⟩) ls.length c, .string ⟨sep.toArray⟩] w fun e w' => RetS w (Lib.join ls sep) e w' := by
  have e : (ls.map fun l => (⟨l.toArray⟩ : ByteArray)).map (·.data.toList) = ls := by
    rw [List.map_map]
    conv => rhs; rw [← List.map_id ls]
    apply List.map_congr_left
    intro l _
    simp
  have h := Tryz.strings_Join bk o c (ls.map fun l => ⟨l.toArray⟩) ⟨sep.toArray⟩ w (fun j x hx => by
    rw [List.getElem?_map] at hx
    cases hj : ls[j]? with
    | none => rw [hj] at hx; cases hx
    | some l =>
      rw [hj] at hx
      cases hx
      exact hcells j l hj) hbk (by rw [List.length_map]; omega) (by rw [List.length_map]; exact hcap) (by
    rw [e]
    have := join_len ls sep
    have e3 : (⟨sep.toArray⟩ : ByteArray).data.toList = sep := by simp
    rw [e3]
    omega)
  rw [e, List.length_map] at h
  have e3 : (⟨sep.toArray⟩ : ByteArray).data.toList = sep := by simp
  rw [e3] at h
  exact h

theorem stringsJoinV (v : Value) (ls : List (List UInt8)) (sep : List UInt8) (w : World) (h : StrsAt w w.heap.size v ls) (hl : ls.length ≤ 1073741824) (hlen : Lib.lens ls + ls.length * sep.length ≤ 70368744177664) :
    Calls Tryz.prog 80 #[v, .string ⟨sep.toArray⟩] w fun e w' => RetS w (Lib.join ls sep) e w' := by
  obtain ⟨A, c, rfl, hc, he⟩ := formS_ h
  by_cases h0 : 0 < ls.length
  · obtain ⟨b, o, x, rfl, hb, _, _⟩ := he 0 h0
    refine stringsJoin b o c ls sep w (fun j l hj => ?_) hb hl hc hlen
    have hj2 := (List.getElem?_eq_some_iff.1 hj).1
    obtain ⟨b', o', x', e1, _, e2, e3⟩ := he j hj2
    cases e1
    rw [hj] at e2
    cases e2
    exact e3
  · have hn : ls = [] := List.eq_nil_of_length_eq_zero (by omega)
    subst hn
    exact (Tryz.strings_Join_none A c ⟨sep.toArray⟩ w).mono fun _ _ ⟨h1, h2⟩ => ⟨h1, h2 ▸ Below.refl _ _⟩
theorem joinS (v : Value) (ls : List (List UInt8)) (sep : List UInt8) (w : World) (h : StrsAt w w.heap.size v ls) (hl : ls.length ≤ 1073741824) (hlen : Lib.lens ls + ls.length * sep.length ≤ 70368744177664) :
    Calls Tryz.prog 82 #[v, .string ⟨sep.toArray⟩] w fun e w' => RetS w (Lib.join ls sep) e w' := by
  obtain ⟨A, c, rfl, hc, he⟩ := formS_ h
  have He := hide he
  have Hlen := hide hlen
  clear h he hlen hc
  go_enter Tryz.func82, Tryz.ntmps82
  go_wp2
  have Ho0 : Hid (OwnV 5 (w.alloc (.cells #[] 5)) w.heap.size (.slice (some ⟨w.heap.size, 0, none⟩) 0 0) (bytesV (Lib.join (ls.take 0) sep))) := own_empty _ _
  have Hb0 := hide (below_alloc w (.cells #[] 5))
  go_loopw [5, 6] (fun u5 i wr => ∃ k : Nat, k ≤ ls.length ∧ i = .int .i64 k ∧ Hid (OwnV 5 wr w.heap.size u5 (bytesV (Lib.join (ls.take k) sep))) ∧ Hid (Below w.heap.size w wr)) (fun _ i _ => ls.length - (intOf i).toNat)
  case atStart => exact ⟨0, by omega, rfl, Ho0, Hb0⟩
  case round =>
    obtain ⟨k, hk, rfl, hown, hb⟩ := hrel
    by_cases hlt : k < ls.length
    · obtain ⟨b, o, y, rfl, hbb, hy, hcell0⟩ := He.out k hlt
      have hcell := (hb.out.cell (p := ⟨b, o + k, none⟩) hbb).trans hcell0
      have ho := hown.out
      have hsz := hb.out.size
      have hjl := join_take_len ls sep k
      have hjl2 := join_take_len ls sep (k + 1)
      have Hy := hide hy
      clear hcell0 hy
      by_cases h0 : 0 < k
      · have e := join_next sep h0 Hy.out
        have Hj := hide e
        rw [e, List.length_append, List.length_append] at hjl2
        have hl1 : (Lib.join (ls.take k) sep).length + sep.length ≤ 140737488355328 := by have := Hlen.out; omega
        have hl2 : (Lib.join (ls.take k) sep ++ sep).length + y.length ≤ 140737488355328 := by have := Hlen.out; rw [List.length_append]; omega
        clear e hjl hjl2
        go_wp2_with (first | (at_builtin; refine wpList_appT ho sep Tryz.underlying22 Tryz.underlying9 infoB rfl _ _ rfl rfl rfl hl1 hsz ?_; intro v5 w5 ho5 hb5; have hsz5 := (hb.out.trans hb5).size; have hcell5 := (hb5.cell (p := ⟨b, o + k, none⟩) hbb).trans hcell) | (at_builtin; refine wpList_appT ho5 y Tryz.underlying22 Tryz.underlying9 infoB rfl _ _ rfl rfl rfl hl2 hsz5 ?_; intro v6 w6 ho6 hb6))
        have Ho6 : Hid (OwnV 5 w6 w.heap.size v6 (bytesV (Lib.join (ls.take (k + 1)) sep))) := by show OwnV _ _ _ _ _; rw [Hj.out]; exact ho6
        have Hb6 : Hid (Below w.heap.size w w6) := (hb.out.trans hb5).trans hb6
        clear ho5 ho6 hb5 hb6 hcell5
        go_roundw
        case rel => exact ⟨k + 1, by omega, by go_num, Ho6, Hb6⟩
        case measure => simp [intOf]; omega
      · obtain rfl : k = 0 := by omega
        rw [Nat.add_zero] at hcell
        have e := join_first sep Hy.out
        have Hj := hide e
        rw [e] at hjl2
        have ho0 : OwnV 5 wr w.heap.size _ (bytesV []) := ho
        have hl2 : ([] : List UInt8).length + y.length ≤ 140737488355328 := by have := Hlen.out; show 0 + y.length ≤ _; omega
        clear e hjl hjl2 ho
        go_wp2_with (at_builtin; refine wpList_appT ho0 y Tryz.underlying22 Tryz.underlying9 infoB rfl _ _ rfl rfl rfl hl2 hsz ?_; intro v6 w6 ho6 hb6)
        have Ho6 : Hid (OwnV 5 w6 w.heap.size v6 (bytesV (Lib.join (ls.take (0 + 1)) sep))) := by show OwnV _ _ _ _ _; rw [Hj.out]; exact ho6
        have Hb6 : Hid (Below w.heap.size w w6) := hb.out.trans hb6
        clear ho6 hb6
        go_roundw
        case rel => exact ⟨0 + 1, by omega, by go_num, Ho6, Hb6⟩
        case measure => simp [intOf]; omega
    · have hk2 : ls.length ≤ k := by omega
      have Ht := hide (take_all ls k hk2)
      have hcv := own_str (P := Tryz.prog) (src := 22) (dst := 9) Tryz.underlying22 Tryz.underlying5 Tryz.underlying9 hown.out
      go_wp2
      go_ret
      exact ⟨ret_str (by rw [Ht.out]), hb.out⟩
end
end Go.Proofs.YtmkacjpjcfffmabGreatDoor
