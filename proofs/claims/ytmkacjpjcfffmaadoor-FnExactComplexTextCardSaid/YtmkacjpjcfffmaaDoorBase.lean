/- Words for memory that the walks of this seat share: a slice that reads as a list, a slice that the call owns, how both are kept while the world grows. No program is named here. -/
import Derived.WalkKit
import Derived.WalkSpells
import Derived.WalkLawsBesides
import Derived.Lib.Hide
import Derived.Handy
import Derived.BigQuiet
import Derived.Deep.QuietTactic
import Derived.Deep.Draws
import Derived.Deep.RegionHeld3
import Derived.Deep.DeepMust
import Derived.Deep.DeepFit
import Derived.Laws.BitsAllLaws
import Derived.Laws.BitsLemmas
namespace Go.Proofs.YtmkacjpjcfffmaaDoor
open Go.RowKit

/-! ### hiding -/
theorem hide {p : Prop} (h : p) : Hid p := h

/-! ### frames -/
theorem below_size {B : Nat} {w w' : World} (h : Below B w w') : w.heap.size ≤ w'.heap.size := h.size
theorem below_drewN {B : Nat} {a w : World} (h : Below B a w) (n : Nat) : Below B a (w.drewN n) := ⟨h.os, h.tape, h.output, h.size, h.block⟩
theorem below_step {B : Nat} {a b c : World} (h : Below B a b) (k : Below b.heap.size b c) (hB : B ≤ b.heap.size) : Below B a c := h.trans (k.mono hB)
theorem below_call {B : Nat} {a b c : World} {X : Nat} (h : Below B a b) (k : Below X b c) (hB : B ≤ X) : Below B a c := h.trans (k.mono hB)
theorem bcell {X : Nat} {W w1 : World} (hb : Below X W w1) : (∀ b o, b < X → w1.cell? ⟨b, o, none⟩ = W.cell? ⟨b, o, none⟩) ∧ (∀ b o, b < X → w1.frozen? ⟨b, o, none⟩ = W.frozen? ⟨b, o, none⟩) :=
  ⟨fun b o h => hb.cell (p := ⟨b, o, none⟩) h, fun b o h => hb.frozen (p := ⟨b, o, none⟩) h⟩
theorem grown_below {w w' : World} {row : Option Nat} {B : Nat} (hg : w.grownBy w' row) (hB : B ≤ w.heap.size) (hr : ∀ k, row = some k → B ≤ k) : Below B w w' :=
  (Below.refl B w).grown hg hB hr
theorem grown_refl (w : World) (row : Option Nat) : w.grownBy w row := ⟨rfl, rfl, rfl, Nat.le_refl _, fun _ _ _ => rfl⟩
theorem grown_step {a b c : World} {row : Option Nat} (h : a.grownBy b row) (k : Below b.heap.size b c) : a.grownBy c row :=
  ⟨k.os.trans h.os, k.tape.trans h.tape, k.output.trans h.output, Nat.le_trans h.size k.size, fun i hi hne => (k.block i (Nat.lt_of_lt_of_le hi h.size)).trans (h.block i hi hne)⟩
theorem grown_trans {a b c : World} {row : Option Nat} (h : a.grownBy b row) (k : b.grownBy c row) : a.grownBy c row :=
  ⟨k.os.trans h.os, k.tape.trans h.tape, k.output.trans h.output, Nat.le_trans h.size k.size, fun i hi hne => (k.block i (Nat.lt_of_lt_of_le hi h.size) hne).trans (h.block i hi hne)⟩
theorem grown_drew {a w : World} {row : Option Nat} (h : a.grownBy w row) : a.grownBy w.drew row := ⟨h.os, h.tape, h.output, h.size, h.block⟩
theorem grown_drewN {a w : World} {row : Option Nat} (h : a.grownBy w row) (n : Nat) : a.grownBy (w.drewN n) row := ⟨h.os, h.tape, h.output, h.size, h.block⟩

/-! ### a slice that reads as a list of one-cell values -/
/-- v is a slice that reads as vs, its cells below block B. -/
def ReadsV (w : World) (B : Nat) (v : Value) (vs : List Value) : Prop :=
  ∃ (A : Option Addr) (c : Nat), v = .slice A vs.length c ∧ vs.length ≤ c ∧
    (0 < vs.length → ∃ b o, A = some ⟨b, o, none⟩ ∧ b < B ∧ ∀ i u, vs[i]? = some u → w.cell? ⟨b, o + i, none⟩ = some u)

section
variable {w w' : World} {B B' : Nat} {v : Value} {vs : List Value}
theorem ReadsV.keep (h : ReadsV w B v vs) (hk : ∀ b o, b < B → w'.cell? ⟨b, o, none⟩ = w.cell? ⟨b, o, none⟩) : ReadsV w' B v vs := by
  obtain ⟨A, c, hv, hc, hx⟩ := h
  refine ⟨A, c, hv, hc, fun hn => ?_⟩
  obtain ⟨b, o, hA, hb, hcell⟩ := hx hn
  exact ⟨b, o, hA, hb, fun i u hu => (hk _ _ hb).trans (hcell i u hu)⟩
theorem ReadsV.more (h : ReadsV w B v vs) (hB : B ≤ B') : ReadsV w B' v vs := by
  obtain ⟨A, c, hv, hc, hx⟩ := h
  refine ⟨A, c, hv, hc, fun hn => ?_⟩
  obtain ⟨b, o, hA, hb, hcell⟩ := hx hn
  exact ⟨b, o, hA, by omega, hcell⟩
theorem ReadsV.below (h : ReadsV w B v vs) {X : Nat} (hb : Below X w w') (hB : B ≤ X) : ReadsV w' B v vs := h.keep fun b o hp => hb.cell (p := ⟨b, o, none⟩) (by show b < X; omega)
/-- The same, and below the new heap's size. -/
theorem ReadsV.on (h : ReadsV w B v vs) {X : Nat} (hb : Below X w w') (hB : B ≤ X) (hX : X ≤ w.heap.size) : ReadsV w' w'.heap.size v vs :=
  (h.below hb hB).more (by have := hb.size; omega)
theorem ReadsV.alloc (h : ReadsV w w.heap.size v vs) (o : Obj) : ReadsV (w.alloc o) (w.alloc o).heap.size v vs :=
  h.on ((Below.refl _ _).alloc (Nat.le_refl _) o) (Nat.le_refl _) (Nat.le_refl _)
theorem ReadsV.alloc' (h : ReadsV w B v vs) (hB : B ≤ w.heap.size) (o : Obj) : ReadsV (w.alloc o) B v vs :=
  h.below ((Below.refl _ _).alloc (Nat.le_refl _) o) hB
theorem ReadsV.drew (h : ReadsV w B v vs) : ReadsV w.drew B v vs := h
theorem ReadsV.drewN (h : ReadsV w B v vs) (n : Nat) : ReadsV (w.drewN n) B v vs := h
theorem ReadsV.nil_ (w : World) (B : Nat) : ReadsV w B (.slice none 0 0) [] := ⟨none, 0, rfl, Nat.le_refl _, fun h => absurd h (by simp)⟩
end

/-- The call owns the slice v, which holds the one-cell values vs, in a block from B on. -/
abbrev OwnV (e : TypeId) (w : World) (B : Nat) (v : Value) (vs : List Value) : Prop := w.ownsRow B e 1 v vs.length vs

section
variable {w w' : World} {B B' : Nat} {v : Value} {vs : List Value} {e : TypeId}
theorem own_reads (h : OwnV e w B v vs) : ReadsV w w.heap.size v vs := by
  rcases h.2 with ⟨hv, hn⟩ | ⟨g, cap, cur, rfl, hb, hg, hn, _⟩
  · have : vs = [] := List.eq_nil_of_length_eq_zero hn
    subst this
    rw [hv]
    exact ReadsV.nil_ _ _
  · refine ⟨_, cap, rfl, hn, fun _ => ⟨g, 0, rfl, (Array.getElem?_eq_some_iff.1 hg).1, fun i u hu => ?_⟩⟩
    have := h.cells (g := g) rfl i u hu
    rw [Addr.add_lit] at this
    exact this
theorem own_mono (h : OwnV e w B v vs) (hB : B' ≤ B) : OwnV e w B' v vs := by
  refine ⟨h.1, ?_⟩
  rcases h.2 with h2 | ⟨g, cap, cur, hv, hb, r⟩
  · exact .inl h2
  · exact .inr ⟨g, cap, cur, hv, by omega, r⟩
theorem own_below (h : OwnV e w B v vs) (hb : Below w.heap.size w w') : OwnV e w' B v vs :=
  h.kept (row := none) ⟨hb.os, hb.tape, hb.output, hb.size, fun k hk _ => hb.block k hk⟩ (by cases v.ownBlock <;> simp)
theorem own_grown (h : OwnV e w B v vs) {row : Option Nat} (hg : w.grownBy w' row) (hne : ∀ k, v.ownBlock = some k → row ≠ some k) : OwnV e w' B v vs :=
  h.kept hg (by
    cases hv : v.ownBlock with
    | none => exact .inl rfl
    | some k => exact .inr (fun e => hne k hv e.symm))
theorem own_nil (w : World) (B : Nat) : OwnV e w B (.slice none 0 0) [] := World.ownsRow_nil w B e 1
theorem own_empty (e : TypeId) (w : World) : OwnV e (w.alloc (.cells #[] e)) w.heap.size (.slice (some ⟨w.heap.size, 0, none⟩) 0 0) [] := World.ownsRow_lit (size := 1) w #[] 0 (Nat.le_refl _) (Nat.zero_le _) rfl
theorem below_alloc (w : World) (o : Obj) : Below w.heap.size w (w.alloc o) := (Below.refl _ _).alloc (Nat.le_refl _) o
theorem own_block (h : OwnV e w B v vs) : ∀ k, v.ownBlock = some k → B ≤ k ∧ k < w.heap.size := h.lt
/-- Its shape: nil, or a slice at the head of a block. -/
theorem own_form (h : OwnV e w B v vs) : (v = .slice none 0 0 ∧ vs = []) ∨ ∃ g cap, v = .slice (some ⟨g, 0, none⟩) vs.length cap ∧ B ≤ g ∧ g < w.heap.size ∧ vs.length ≤ cap := by
  rcases h.2 with ⟨hv, hn⟩ | ⟨g, cap, cur, hv, hb, hg, hn, _⟩
  · exact .inl ⟨hv, List.eq_nil_of_length_eq_zero hn⟩
  · exact .inr ⟨g, cap, hv, hb, (Array.getElem?_eq_some_iff.1 hg).1, hn⟩
theorem own_cell (h : OwnV e w B v vs) {g cap : Nat} (hv : v = .slice (some ⟨g, 0, none⟩) vs.length cap) {k : Nat} {u : Value} (hk : vs[k]? = some u) :
    w.cell? ⟨g, k, none⟩ = some u ∧ w.frozen? ⟨g, k, none⟩ = false := by
  subst hv
  have hl := (List.getElem?_eq_some_iff.1 hk).1
  exact ⟨(h.cellAt k (by omega)).trans hk, h.frozenAt k⟩
theorem own_set (h : OwnV e w B v vs) {g cap : Nat} (hv : v = .slice (some ⟨g, 0, none⟩) vs.length cap) (k : Nat) (u : Value) :
    OwnV e (w.setCell ⟨g, k, none⟩ u) B v (vs.set k u) := by
  subst hv
  have := (h.stored k u).1
  simpa [OwnV] using this
theorem grown_setCell {a : World} {g : Nat} (h : a.grownBy w (some g)) (k : Nat) (u : Value) : a.grownBy (w.setCell ⟨g, k, none⟩ u) (some g) :=
  ⟨h.os, h.tape, h.output, by simpa [World.setCell] using h.size, fun i hi hne => (Below.heap_setCell w ⟨g, k, none⟩ u i (fun e => hne (by rw [e]))).trans (h.block i hi hne)⟩
end

/-! ### append of one value to an owned slice -/
theorem wpList_app1 {P : Program} {ops : Array Oper} {rest : List Oper} {o : Oper} {a : Act} {Q : Exit → Act → World → Prop} (w : World)
    (t e : TypeId) (z : Value) (by8 : Nat) (hg : o.guard = none) (s x : Operand)
    (hop : o.op = Op.call { callee := Callee.builtin Builtin.append, args := #[s, x], argTypes := #[t, t] })
    (ht : P.underlying t = some (.slice e)) (he : (P.info? e).map (fun i => (i.zero, i.size, i.bytes)) = some (some z, 1, by8)) (hzs : z.cells.size = 1) (hby : by8 ≤ 4096)
    (B : Nat) (v : Value) (vs : List Value) (hs : a.eval s = v) (hown : OwnV e w B v vs) (q : Nat) (y : Value)
    (hx : a.eval x = .slice (some ⟨q, 0, none⟩) 1 1) (hy : w.cell? ⟨q, 0, none⟩ = some y) (hy1 : y.oneCell' = true) (hlen : vs.length < 17179869184) (hB : B ≤ w.heap.size)
    (hK : ∀ v' w', OwnV e w' B v' (vs ++ [y]) → w.grownBy w' v.ownBlock → wpList P ops Q rest (a.put o.dst v') w') :
    wpList P ops Q (o :: rest) a w := by
  obtain ⟨i0, hi, hz0, hz1, hz2⟩ := info_parts he
  refine wpList_append_own w hg s x t hop B e i0 z 1 by8 ht hi hz0 hz1 hz2 hzs (by decide) v vs.length vs hs hown ⟨q, 0, none⟩ 1 1 [y] hx rfl ?_ ?_ ?_ ?_ hB ?_
  · intro j u hj
    match j, hj with
    | 0, hj =>
      simp at hj
      subst hj
      exact hy
  · intro u hu
    simp at hu
    subst hu
    exact hy1
  · unfold maxLen
    omega
  · have : (vs.length + 1) * by8 ≤ 17179869184 * 4096 := Nat.mul_le_mul (by omega) hby
    omega
  · intro v' w' h1 h2 _
    refine hK v' w' ?_ h2
    show w'.ownsRow B e 1 v' (vs ++ [y]).length (vs ++ [y])
    simpa using h1

/-- What is left of an append, of old memory: nothing below B has turned. -/
theorem app_below {w w' : World} {B : Nat} {v : Value} {vs : List Value} {e : TypeId} (hown : OwnV e w B v vs) (hg : w.grownBy w' v.ownBlock) (hB : B ≤ w.heap.size) : Below B w w' :=
  grown_below hg hB (fun k hk => (hown.lt k hk).1)

/-! ### a quiet call inside a region that draws -/
theorem quiet_left {P : Program} {f : FuncId} {args : Array Value} {w : World} {n : Nat} {v : Value} (h : Calls P f args (w.drewN n) fun e w' => e = .returned v ∧ w.drewN n = w') :
    Calls P f args (w.drewN n) fun e w'' => e = .returned v ∧ ∃ m, w'' = w.drewN m := h.mono fun _ _ ⟨he, hm⟩ => ⟨he, n, hm.symm⟩
theorem quiet_add_left {P : Program} {f : FuncId} {args : Array Value} {w : World} {a n : Nat} {v : Value} (h : Calls P f args (w.drewN (a + n)) fun e w' => e = .returned v ∧ w.drewN (a + n) = w') :
    Calls P f args (w.drewN (a + n)) fun e w'' => e = .returned v ∧ ∃ m, w'' = w.drewN (a + m) := h.mono fun _ _ ⟨he, hm⟩ => ⟨he, n, hm.symm⟩

/-! ### lists of ints -/
abbrev ints (xs : List Int) : List Value := xs.map (Value.int .i64)
abbrev IntsAt (w : World) (B : Nat) (v : Value) (xs : List Int) : Prop := ReadsV w B v (ints xs)
theorem ints_length (xs : List Int) : (ints xs).length = xs.length := List.length_map _
/-- The element k of a slice of ints. -/
theorem form_ {w : World} {B : Nat} {v : Value} {xs : List Int} (h : IntsAt w B v xs) : ∃ (A : Option Addr) (c : Nat), v = .slice A xs.length c ∧ xs.length ≤ c ∧
    ∀ k, k < xs.length → ∃ b o x, A = some ⟨b, o, none⟩ ∧ b < B ∧ xs[k]? = some x ∧ w.cell? ⟨b, o + k, none⟩ = some (.int .i64 x) := by
  obtain ⟨A, c, hv, hc, hx⟩ := h
  rw [ints_length] at hv hc hx
  refine ⟨A, c, hv, hc, fun k hk => ?_⟩
  obtain ⟨b, o, hA, hb, hcell⟩ := hx (by omega)
  refine ⟨b, o, xs[k], hA, hb, List.getElem?_eq_getElem hk, hcell k _ ?_⟩
  simp [List.getElem?_map, List.getElem?_eq_getElem hk]
/-- What was readable in the world W is so in a later one. -/
theorem own_shape {e : TypeId} {w : World} {B : Nat} {v : Value} {xs : List Int} (h : OwnV e w B v (ints xs)) : ∃ A c, v = .slice A xs.length c := by
  obtain ⟨A, c, hv, _⟩ := form_ (own_reads h)
  exact ⟨A, c, hv⟩
theorem reads_shape {w : World} {B : Nat} {v : Value} {xs : List Int} (h : IntsAt w B v xs) : ∃ A c, v = .slice A xs.length c := by
  obtain ⟨A, c, hv, _⟩ := form_ h
  exact ⟨A, c, hv⟩
theorem own_setBelow {e : TypeId} {w : World} {B : Nat} {v : Value} {vs : List Value} (h : OwnV e w B v vs) {b : Nat} (hb : b < B) (o : Nat) (u : Value) : OwnV e (w.setCell ⟨b, o, none⟩ u) B v vs := ownsRow_setCell_below h (by exact hb) u
theorem own_setNe {e : TypeId} {w : World} {B : Nat} {v : Value} {vs : List Value} (h : OwnV e w B v vs) {b : Nat} (hb : ∀ k, v.ownBlock = some k → b ≠ k) (o : Nat) (u : Value) : OwnV e (w.setCell ⟨b, o, none⟩ u) B v vs :=
  own_grown h (row := some b) ⟨rfl, rfl, rfl, by simp [World.setCell], fun k _ hne => Below.heap_setCell w ⟨b, o, none⟩ u k (fun e => hne (by rw [e]))⟩ (fun k hk e => hb k hk (Option.some.inj e))
/-- What is owned from B on, its block from C on: two facts. -/
theorem own_far {e : TypeId} {w : World} {B C D : Nat} {v : Value} {vs : List Value} (h : OwnV e w B v vs) (hD : D ≤ B) (hC : C ≤ B) : OwnV e w D v vs ∧ ∀ k, v.ownBlock = some k → C ≤ k :=
  ⟨own_mono h hD, fun k hk => Nat.le_trans hC (own_block h k hk).1⟩
theorem now_ {W w' : World} {v : Value} {xs : List Int} (h : IntsAt W W.heap.size v xs) (c : Below W.heap.size W w') : IntsAt w' w'.heap.size v xs := ReadsV.on h c (Nat.le_refl _) (Nat.le_refl _)
theorem nxt {a b c : World} (h : Below a.heap.size a b) (k : Below b.heap.size b c) : Below a.heap.size a c := below_step h k h.size
theorem int_one (x : Int) : (Value.int .i64 x).oneCell' = true := rfl
theorem ints_snoc (xs : List Int) (x : Int) : ints (xs ++ [x]) = ints xs ++ [Value.int .i64 x] := by simp [ints]

theorem take_snoc {α : Type} (xs : List α) (k : Nat) (x : α) (h : xs[k]? = some x) : xs.take (k + 1) = xs.take k ++ [x] := by
  rw [List.take_add_one, h]
  rfl
theorem take_all {α : Type} (xs : List α) (k : Nat) (h : xs.length ≤ k) : xs.take k = xs := List.take_of_length_le h

/-- 'out = append(out, y)' of ints: T the number of []int, E the number of int; the one-element slice lies in the block just made. -/
theorem wpList_appI {P : Program} {ops : Array Oper} {rest : List Oper} {o : Oper} {a : Act} {Q : Exit → Act → World → Prop} {w : World} {B : Nat} {v : Value} {xs : List Int} {T E : TypeId} (hown : OwnV E w B v (ints xs)) (y : Int)
    (ht : P.underlying T = some (.slice E)) (he : (P.info? E).map (fun i => (i.zero, i.size, i.bytes)) = some (some (.int .i64 0), 1, 8)) (hg : o.guard = none) (s x : Operand)
    (hop : o.op = Op.call { callee := Callee.builtin Builtin.append, args := #[s, x], argTypes := #[T, T] }) (hs : a.eval s = v)
    (hx : a.eval x = .slice (some ⟨w.heap.size, 0, none⟩) 1 1) (hlen : xs.length < 17179869184) (hB : B ≤ w.heap.size)
    (hK : ∀ v' w', OwnV E w' B v' (ints (xs ++ [y])) → Below B w w' → w.grownBy w' v.ownBlock → wpList P ops Q rest (a.put o.dst v') w') :
    wpList P ops Q (o :: rest) a (w.alloc (.cells #[.int .i64 y] E)) := by
  refine wpList_app1 _ T E (.int .i64 0) 8 hg s x hop ht he rfl (by decide) B v (ints xs) hs (hown.alloc _) w.heap.size (.int .i64 y) hx (by simp) rfl (by rw [ints_length]; exact hlen) (by simp; omega) ?_
  intro v' w' h1 h2
  have h3 := grown_trans (World.grownBy_alloc w (.cells #[.int .i64 y] E) v.ownBlock) h2
  exact hK v' w' (by rw [ints_snoc]; exact h1) (grown_below h3 hB (fun k hk => (hown.lt k hk).1)) h3

/-- The same of whatever one-cell value. -/
theorem wpList_appV {P : Program} {ops : Array Oper} {rest : List Oper} {o : Oper} {a : Act} {Q : Exit → Act → World → Prop} {w : World} {B : Nat} {v : Value} {vs : List Value} {T E : TypeId} (hown : OwnV E w B v vs) (y z : Value) (by8 : Nat)
    (ht : P.underlying T = some (.slice E)) (he : (P.info? E).map (fun i => (i.zero, i.size, i.bytes)) = some (some z, 1, by8)) (hzs : z.cells.size = 1) (hby : by8 ≤ 4096) (hy1 : y.oneCell' = true) (hg : o.guard = none) (s x : Operand)
    (hop : o.op = Op.call { callee := Callee.builtin Builtin.append, args := #[s, x], argTypes := #[T, T] }) (hs : a.eval s = v)
    (hx : a.eval x = .slice (some ⟨w.heap.size, 0, none⟩) 1 1) (hlen : vs.length < 17179869184) (hB : B ≤ w.heap.size)
    (hK : ∀ v' w', OwnV E w' B v' (vs ++ [y]) → Below B w w' → w.grownBy w' v.ownBlock → wpList P ops Q rest (a.put o.dst v') w') :
    wpList P ops Q (o :: rest) a (w.alloc (.cells #[y] E)) := by
  refine wpList_app1 _ T E z by8 hg s x hop ht he hzs hby B v vs hs (hown.alloc _) w.heap.size y hx (by simp) hy1 hlen (by simp; omega) ?_
  intro v' w' h1 h2
  have h3 := grown_trans (World.grownBy_alloc w (.cells #[y] E) v.ownBlock) h2
  exact hK v' w' h1 (grown_below h3 hB (fun k hk => (hown.lt k hk).1)) h3

/-- 'make([]T, n)', T of one cell. -/
theorem wpList_makeV {P : Program} {ops : Array Oper} {rest : List Oper} {o : Oper} {a : Act} {Q : Exit → Act → World → Prop} {w : World} {T E : TypeId} (z : Value) (by8 : Nat) (n : Nat)
    (ht : P.underlying T = some (.slice E)) (he : (P.info? E).map (fun i => (i.zero, i.size, i.bytes)) = some (some z, 1, by8)) (hz : z.cells = #[z]) (hby : by8 ≤ 4096) (hn : n ≤ 17179869184) (hg : o.guard = none) (l c : Operand)
    (hop : o.op = Op.makeSlice T l c) (hl : a.eval l = .int .i64 (n : Int)) (hc : a.eval c = .int .i64 (n : Int))
    (hK : ∀ w', OwnV E w' w.heap.size (.slice (some ⟨w.heap.size, 0, none⟩) n n) (List.replicate n z) → Below w.heap.size w w' → wpList P ops Q rest (a.put o.dst (.slice (some ⟨w.heap.size, 0, none⟩) n n)) w') :
    wpList P ops Q (o :: rest) a w := by
  obtain ⟨i0, hi, hz0, hz1, hz2⟩ := info_parts he
  refine wpList_make_full w hg l c T hop w.heap.size E i0 z 1 ht hi hz0 hz1 .i64 .i64 n n n hl hc rfl rfl ?_ (by unfold maxLen; omega) (Nat.le_refl _) ?_
  · rw [hz2]
    have : by8 * n ≤ 4096 * 17179869184 := Nat.mul_le_mul hby hn
    omega
  · intro w' h1 h2
    refine hK w' ?_ (grown_below h2 (Nat.le_refl _) (fun k hk => by cases hk))
    rw [hz, Nat.mul_one, toList_madeCells_one] at h1
    unfold OwnV
    rw [List.length_replicate]
    exact h1

/-! ### a string as a list of bytes: '.string ⟨l.toArray⟩' -/
theorem bget (l : List UInt8) (k : Nat) (c : UInt8) (h : l[k]? = some c) : ∃ hk : k < (⟨l.toArray⟩ : ByteArray).size, (⟨l.toArray⟩ : ByteArray)[k]'hk = c := by
  obtain ⟨hk, hc⟩ := List.getElem?_eq_some_iff.1 h
  exact ⟨hk, hc⟩

/-- Bytes as values. -/
abbrev bytesV (l : List UInt8) : List Value := l.map (fun c => Value.int .u8 (c.toNat : Int))
theorem bytesV_snoc (l : List UInt8) (c : UInt8) : bytesV (l ++ [c]) = bytesV l ++ [Value.int .u8 (c.toNat : Int)] := by simp [bytesV]
theorem foldl_push (l : List UInt8) : ∀ r : List UInt8, (l.map (fun c => (c.toNat : Int))).foldl (fun (r : ByteArray) n => r.push (UInt8.ofNat n.toNat)) ⟨r.toArray⟩ = ⟨(r ++ l).toArray⟩ := by
  induction l with
  | nil => intro r; simp
  | cons c l ih =>
    intro r
    rw [List.map_cons, List.foldl_cons]
    have e : (ByteArray.mk r.toArray).push (UInt8.ofNat ((c.toNat : Int)).toNat) = ⟨(r ++ [c]).toArray⟩ := by
      simp [ByteArray.push]
    rw [e, ih]
    simp
/-- string(b), b a slice of bytes that the call owns. -/
theorem own_str {P : Program} {src dst E : TypeId} {w : World} {B : Nat} {v : Value} {l : List UInt8} (hs : P.underlying src = some (.slice E)) (he : P.underlying E = some (.int .u8)) (hd : P.underlying dst = some .string) (h : OwnV E w B v (bytesV l)) :
    (convert src dst v).run P w = .ok (.string ⟨l.toArray⟩) w := by
  rcases own_form h with ⟨rfl, hx⟩ | ⟨g, cap, hv, _, _, _⟩
  · have : l = [] := by simpa [bytesV] using hx
    subst this
    rw [run_convert_bytes_string w src dst E none 0 0 hs he hd]
    simp [Conv.bytesToString]
    rfl
  · subst hv
    rw [run_convert_bytes_string w src dst E _ _ _ hs he hd]
    have hl : (loadCells ⟨g, 0, none⟩ (bytesV l).length).run P w = .ok ((l.map (fun c => (c.toNat : Int))).map (Value.int .u8)).toArray w := by
      rw [show (l.map (fun c => (c.toNat : Int))).map (Value.int .u8) = bytesV l from by simp [bytesV]]
      exact run_loadCells_list w ⟨g, 0, none⟩ (bytesV l) (h.cells rfl)
    rw [run_bytesToString w _ _ _ _ hl]
    have := foldl_push l []
    rw [List.nil_append] at this
    rw [show ByteArray.empty = ⟨([] : List UInt8).toArray⟩ from rfl, this]

/-- string([]byte{n}). -/
theorem conv1 {P : Program} {src dst E : TypeId} (hs : P.underlying src = some (.slice E)) (he : P.underlying E = some (.int .u8)) (hd : P.underlying dst = some .string) (W : World) (n : Int) :
    (convert src dst (.slice (some ⟨W.heap.size, 0, none⟩) 1 1)).run P (W.alloc (.cells #[.int .u8 n] E)) = .ok (.string ⟨#[UInt8.ofNat n.toNat]⟩) (W.alloc (.cells #[.int .u8 n] E)) := by
  rw [run_convert_bytes_string _ src dst E _ _ _ hs he hd]
  have hl := run_loadCells_list (P := P) (W.alloc (.cells #[.int .u8 n] E)) ⟨W.heap.size, 0, none⟩ [.int .u8 n] (by
    intro j v hv
    match j, hv with
    | 0, hv => simp at hv; subst hv; simp [Addr.add])
  have hb := run_bytesToString (P := P) (W.alloc (.cells #[.int .u8 n] E)) ⟨W.heap.size, 0, none⟩ 1 1 [n] hl
  rw [hb]
  rfl
/-- Strings as values. -/
abbrev strsV (ls : List (List UInt8)) : List Value := ls.map (fun l => Value.string ⟨l.toArray⟩)
theorem strsV_snoc (ls : List (List UInt8)) (l : List UInt8) : strsV (ls ++ [l]) = strsV ls ++ [Value.string ⟨l.toArray⟩] := by simp [strsV]
theorem strsV_length (ls : List (List UInt8)) : (strsV ls).length = ls.length := List.length_map _
abbrev StrsAt (w : World) (B : Nat) (v : Value) (ls : List (List UInt8)) : Prop := ReadsV w B v (strsV ls)
theorem formS_ {w : World} {B : Nat} {v : Value} {xs : List (List UInt8)} (h : StrsAt w B v xs) : ∃ (A : Option Addr) (c : Nat), v = .slice A xs.length c ∧ xs.length ≤ c ∧
    ∀ k, k < xs.length → ∃ b o x, A = some ⟨b, o, none⟩ ∧ b < B ∧ xs[k]? = some x ∧ w.cell? ⟨b, o + k, none⟩ = some (.string ⟨x.toArray⟩) := by
  obtain ⟨A, c, hv, hc, hx⟩ := h
  rw [strsV_length] at hv hc hx
  refine ⟨A, c, hv, hc, fun k hk => ?_⟩
  obtain ⟨b, o, hA, hb, hcell⟩ := hx (by omega)
  refine ⟨b, o, xs[k], hA, hb, List.getElem?_eq_getElem hk, hcell k _ ?_⟩
  simp [List.getElem?_map, List.getElem?_eq_getElem hk]
theorem nowS_ {W w' : World} {v : Value} {xs : List (List UInt8)} (h : StrsAt W W.heap.size v xs) (c : Below W.heap.size W w') : StrsAt w' w'.heap.size v xs := ReadsV.on h c (Nat.le_refl _) (Nat.le_refl _)
/-- The call returns a slice of strings of its own. -/
def RetSs (e0 : TypeId) (w : World) (ls : List (List UInt8)) (e : Ending) (w' : World) : Prop := ∃ v, e = .returned v ∧ OwnV e0 w' w.heap.size v (strsV ls) ∧ Below w.heap.size w w'

/-! ### endings -/
theorem ret_int {k : IntKind} {a b : Int} (h : a = b) : Ending.returned (.int k a) = .returned (.int k b) := by rw [h]
theorem ret_bool {a b : Bool} (h : a = b) : Ending.returned (.bool a) = .returned (.bool b) := by rw [h]
theorem ret_str {l l' : List UInt8} (h : l = l') : Ending.returned (.string ⟨l.toArray⟩) = .returned (.string ⟨l'.toArray⟩) := by rw [h]
/-- The call returns an int slice of its own. -/
def RetI (e0 : TypeId) (w : World) (xs : List Int) (e : Ending) (w' : World) : Prop := ∃ v, e = .returned v ∧ OwnV e0 w' w.heap.size v (ints xs) ∧ Below w.heap.size w w'
/-- The call returns b, and nothing old has turned. -/
def RetB (w : World) (b : Bool) (e : Ending) (w' : World) : Prop := e = .returned (.bool b) ∧ Below w.heap.size w w'
def RetS (w : World) (l : List UInt8) (e : Ending) (w' : World) : Prop := e = .returned (.string ⟨l.toArray⟩) ∧ Below w.heap.size w w'
/-- The call returns an int and a bool. -/
def RetNB (w : World) (n : Int) (b : Bool) (e : Ending) (w' : World) : Prop := e = .returned (.tuple #[.int .i64 n, .bool b]) ∧ Below w.heap.size w w'
/-- The call returns the int n, and nothing old has turned. -/
def RetN (w : World) (n : Int) (e : Ending) (w' : World) : Prop := e = .returned (.int .i64 n) ∧ Below w.heap.size w w'

/-! ### bits of ints from naught on -/
theorem ofInt_i64 (a : Nat) (ha : a < 9223372036854775808) : (BitVec.ofInt 64 (a : Int)).toNat = a := by
  rw [BitVec.ofInt_natCast, BitVec.toNat_ofNat]
  exact Nat.mod_eq_of_lt (by omega)
theorem i64_and (a b : Nat) (ha : a < 9223372036854775808) (hb : b < 9223372036854775808) : bits .and .i64 (a : Int) (b : Int) = ((a &&& b : Nat) : Int) := by
  have hx : a &&& b < 2 ^ 63 := Nat.and_lt_two_pow _ (by omega)
  show IntKind.i64.wrap ((BitVec.ofInt 64 (a : Int) &&& BitVec.ofInt 64 (b : Int)).toNat : Int) = _
  rw [BitVec.toNat_and, ofInt_i64 a ha, ofInt_i64 b hb, IntKind.wrap_i64]
  omega
theorem i64_or (a b : Nat) (ha : a < 9223372036854775808) (hb : b < 9223372036854775808) : bits .or .i64 (a : Int) (b : Int) = ((a ||| b : Nat) : Int) := by
  have hx : a ||| b < 2 ^ 63 := Nat.or_lt_two_pow (by omega) (by omega)
  show IntKind.i64.wrap ((BitVec.ofInt 64 (a : Int) ||| BitVec.ofInt 64 (b : Int)).toNat : Int) = _
  rw [BitVec.toNat_or, ofInt_i64 a ha, ofInt_i64 b hb, IntKind.wrap_i64]
  omega
end Go.Proofs.YtmkacjpjcfffmaaDoor
