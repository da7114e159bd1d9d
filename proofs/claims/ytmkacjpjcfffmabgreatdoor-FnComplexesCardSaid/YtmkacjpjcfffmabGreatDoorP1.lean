/- Texts of one kind, laid together (6 of them). -/
import Derived.WalkKit
import Derived.WalkSpells
import Derived.WalkLawsBesides
import Derived.Lib.Hide
import Derived.Handy
import Derived.BigQuiet
import Derived.Deep.QuietTactic
import Derived.Deep.Draws
import Derived.Deep.RegionHeld3
import Derived.Deep.DeepMust
import Derived.Deep.DeepFit
import Derived.Laws.BitsAllLaws
import Derived.Laws.BitsLemmas
import Derived.Test.YtmkacjpjcfffmabGreatDoorRows
import Derived.Test.YtmkacjpjcfffmabGreatDoorTie
import Derived.Test.YtmkacjpjcfffmabGreatDoorCards
import Derived.ProofKit
import Derived.LaidMore
import Derived.Stop.Joined
import Derived.Stop.LaidErr
import Derived.Lib.LaidTab
import Derived.Lib.ItoaNum
import Derived.Lib.AppendIntMem
import Derived.SevenTiedAt
import Derived.Maps.AppendAt
namespace Go.Proofs.YtmkacjpjcfffmabGreatDoor
/- Words for memory that the walks of this seat share: a slice that reads as a list, a slice that the call owns, how both are kept while the world grows. No program is named here. -/
section
open Go.RowKit

/-! ### hiding -/
theorem hide {p : Prop} (h : p) : Hid p := h

/-! ### frames -/
theorem below_size {B : Nat} {w w' : World} (h : Below B w w') : w.heap.size ≤ w'.heap.size := h.size
theorem below_drewN {B : Nat} {a w : World} (h : Below B a w) (n : Nat) : Below B a (w.drewN n) := ⟨h.os, h.tape, h.output, h.size, h.block⟩
theorem below_step {B : Nat} {a b c : World} (h : Below B a b) (k : Below b.heap.size b c) (hB : B ≤ b.heap.size) : Below B a c := h.trans (k.mono hB)
theorem below_call {B : Nat} {a b c : World} {X : Nat} (h : Below B a b) (k : Below X b c) (hB : B ≤ X) : Below B a c := h.trans (k.mono hB)
theorem bcell {X : Nat} {W w1 : World} (hb : Below X W w1) : (∀ b o, b < X → w1.cell? ⟨b, o, none⟩ = W.cell? ⟨b, o, none⟩) ∧ (∀ b o, b < X → w1.frozen? ⟨b, o, none⟩ = W.frozen? ⟨b, o, none⟩) :=
  ⟨fun b o h => hb.cell (p := ⟨b, o, none⟩) h, fun b o h => hb.frozen (p := ⟨b, o, none⟩) h⟩
theorem grown_below {w w' : World} {row : Option Nat} {B : Nat} (hg : w.grownBy w' row) (hB : B ≤ w.heap.size) (hr : ∀ k, row = some k → B ≤ k) : Below B w w' :=
  (Below.refl B w).grown hg hB hr
theorem grown_refl (w : World) (row : Option Nat) : w.grownBy w row := ⟨rfl, rfl, rfl, Nat.le_refl _, fun _ _ _ => rfl⟩
theorem grown_step {a b c : World} {row : Option Nat} (h : a.grownBy b row) (k : Below b.heap.size b c) : a.grownBy c row :=
  ⟨k.os.trans h.os, k.tape.trans h.tape, k.output.trans h.output, Nat.le_trans h.size k.size, fun i hi hne => (k.block i (Nat.lt_of_lt_of_le hi h.size)).trans (h.block i hi hne)⟩
theorem grown_trans {a b c : World} {row : Option Nat} (h : a.grownBy b row) (k : b.grownBy c row) : a.grownBy c row :=
  ⟨k.os.trans h.os, k.tape.trans h.tape, k.output.trans h.output, Nat.le_trans h.size k.size, fun i hi hne => (k.block i (Nat.lt_of_lt_of_le hi h.size) hne).trans (h.block i hi hne)⟩
theorem grown_drew {a w : World} {row : Option Nat} (h : a.grownBy w row) : a.grownBy w.drew row := ⟨h.os, h.tape, h.output, h.size, h.block⟩
theorem grown_drewN {a w : World} {row : Option Nat} (h : a.grownBy w row) (n : Nat) : a.grownBy (w.drewN n) row := ⟨h.os, h.tape, h.output, h.size, h.block⟩

/-! ### a slice that reads as a list of one-cell values -/
/-- v is a slice that reads as vs, its cells below block B. -/
def ReadsV (w : World) (B : Nat) (v : Value) (vs : List Value) : Prop :=
  ∃ (A : Option Addr) (c : Nat), v = .slice A vs.length c ∧ vs.length ≤ c ∧
    (0 < vs.length → ∃ b o, A = some ⟨b, o, none⟩ ∧ b < B ∧ ∀ i u, vs[i]? = some u → w.cell? ⟨b, o + i, none⟩ = some u)

section
variable {w w' : World} {B B' : Nat} {v : Value} {vs : List Value}
theorem ReadsV.keep (h : ReadsV w B v vs) (hk : ∀ b o, b < B → w'.cell? ⟨b, o, none⟩ = w.cell? ⟨b, o, none⟩) : ReadsV w' B v vs := by
  obtain ⟨A, c, hv, hc, hx⟩ := h
  refine ⟨A, c, hv, hc, fun hn => ?_⟩
  obtain ⟨b, o, hA, hb, hcell⟩ := hx hn
  exact ⟨b, o, hA, hb, fun i u hu => (hk _ _ hb).trans (hcell i u hu)⟩
theorem ReadsV.more (h : ReadsV w B v vs) (hB : B ≤ B') : ReadsV w B' v vs := by
  obtain ⟨A, c, hv, hc, hx⟩ := h
  refine ⟨A, c, hv, hc, fun hn => ?_⟩
  obtain ⟨b, o, hA, hb, hcell⟩ := hx hn
  exact ⟨b, o, hA, by omega, hcell⟩
theorem ReadsV.below (h : ReadsV w B v vs) {X : Nat} (hb : Below X w w') (hB : B ≤ X) : ReadsV w' B v vs := h.keep fun b o hp => hb.cell (p := ⟨b, o, none⟩) (by show b < X; omega)
/-- The same, and below the new heap's size. -/
theorem ReadsV.on (h : ReadsV w B v vs) {X : Nat} (hb : Below X w w') (hB : B ≤ X) (hX : X ≤ w.heap.size) : ReadsV w' w'.heap.size v vs :=
  (h.below hb hB).more (by have := hb.size; omega)
theorem ReadsV.alloc (h : ReadsV w w.heap.size v vs) (o : Obj) : ReadsV (w.alloc o) (w.alloc o).heap.size v vs :=
  h.on ((Below.refl _ _).alloc (Nat.le_refl _) o) (Nat.le_refl _) (Nat.le_refl _)
theorem ReadsV.alloc' (h : ReadsV w B v vs) (hB : B ≤ w.heap.size) (o : Obj) : ReadsV (w.alloc o) B v vs :=
  h.below ((Below.refl _ _).alloc (Nat.le_refl _) o) hB
theorem ReadsV.drew (h : ReadsV w B v vs) : ReadsV w.drew B v vs := h
theorem ReadsV.drewN (h : ReadsV w B v vs) (n : Nat) : ReadsV (w.drewN n) B v vs := h
theorem ReadsV.nil_ (w : World) (B : Nat) : ReadsV w B (.slice none 0 0) [] := ⟨none, 0, rfl, Nat.le_refl _, fun h => absurd h (by simp)⟩
end

/-- The call owns the slice v, which holds the one-cell values vs, in a block from B on. -/
abbrev OwnV (e : TypeId) (w : World) (B : Nat) (v : Value) (vs : List Value) : Prop := w.ownsRow B e 1 v vs.length vs

section
variable {w w' : World} {B B' : Nat} {v : Value} {vs : List Value} {e : TypeId}
theorem own_reads (h : OwnV e w B v vs) : ReadsV w w.heap.size v vs := by
  rcases h.2 with ⟨hv, hn⟩ | ⟨g, cap, cur, rfl, hb, hg, hn, _⟩
  · have : vs = [] := List.eq_nil_of_length_eq_zero hn
    subst this
    rw [hv]
    exact ReadsV.nil_ _ _
  · refine ⟨_, cap, rfl, hn, fun _ => ⟨g, 0, rfl, (Array.getElem?_eq_some_iff.1 hg).1, fun i u hu => ?_⟩⟩
    have := h.cells (g := g) rfl i u hu
    rw [Addr.add_lit] at this
    exact this
theorem own_mono (h : OwnV e w B v vs) (hB : B' ≤ B) : OwnV e w B' v vs := by
  refine ⟨h.1, ?_⟩
  rcases h.2 with h2 | ⟨g, cap, cur, hv, hb, r⟩
  · exact .inl h2
  · exact .inr ⟨g, cap, cur, hv, by omega, r⟩
theorem own_below (h : OwnV e w B v vs) (hb : Below w.heap.size w w') : OwnV e w' B v vs :=
  h.kept (row := none) ⟨hb.os, hb.tape, hb.output, hb.size, fun k hk _ => hb.block k hk⟩ (by cases v.ownBlock <;> simp)
theorem own_grown (h : OwnV e w B v vs) {row : Option Nat} (hg : w.grownBy w' row) (hne : ∀ k, v.ownBlock = some k → row ≠ some k) : OwnV e w' B v vs :=
  h.kept hg (by
    cases hv : v.ownBlock with
    | none => exact .inl rfl
    | some k => exact .inr (fun e => hne k hv e.symm))
theorem own_nil (w : World) (B : Nat) : OwnV e w B (.slice none 0 0) [] := World.ownsRow_nil w B e 1
theorem own_empty (e : TypeId) (w : World) : OwnV e (w.alloc (.cells #[] e)) w.heap.size (.slice (some ⟨w.heap.size, 0, none⟩) 0 0) [] := World.ownsRow_lit (size := 1) w #[] 0 (Nat.le_refl _) (Nat.zero_le _) rfl
theorem below_alloc (w : World) (o : Obj) : Below w.heap.size w (w.alloc o) := (Below.refl _ _).alloc (Nat.le_refl _) o
theorem own_block (h : OwnV e w B v vs) : ∀ k, v.ownBlock = some k → B ≤ k ∧ k < w.heap.size := h.lt
/-- Its shape: nil, or a slice at the head of a block. -/
theorem own_form (h : OwnV e w B v vs) : (v = .slice none 0 0 ∧ vs = []) ∨ ∃ g cap, v = .slice (some ⟨g, 0, none⟩) vs.length cap ∧ B ≤ g ∧ g < w.heap.size ∧ vs.length ≤ cap := by
  rcases h.2 with ⟨hv, hn⟩ | ⟨g, cap, cur, hv, hb, hg, hn, _⟩
  · exact .inl ⟨hv, List.eq_nil_of_length_eq_zero hn⟩
  · exact .inr ⟨g, cap, hv, hb, (Array.getElem?_eq_some_iff.1 hg).1, hn⟩
theorem own_cell (h : OwnV e w B v vs) {g cap : Nat} (hv : v = .slice (some ⟨g, 0, none⟩) vs.length cap) {k : Nat} {u : Value} (hk : vs[k]? = some u) :
    w.cell? ⟨g, k, none⟩ = some u ∧ w.frozen? ⟨g, k, none⟩ = false := by
  subst hv
  have hl := (List.getElem?_eq_some_iff.1 hk).1
  exact ⟨(h.cellAt k (by omega)).trans hk, h.frozenAt k⟩
theorem own_set (h : OwnV e w B v vs) {g cap : Nat} (hv : v = .slice (some ⟨g, 0, none⟩) vs.length cap) (k : Nat) (u : Value) :
    OwnV e (w.setCell ⟨g, k, none⟩ u) B v (vs.set k u) := by
  subst hv
  have := (h.stored k u).1
  simpa [OwnV] using this
theorem grown_setCell {a : World} {g : Nat} (h : a.grownBy w (some g)) (k : Nat) (u : Value) : a.grownBy (w.setCell ⟨g, k, none⟩ u) (some g) :=
  ⟨h.os, h.tape, h.output, by simpa [World.setCell] using h.size, fun i hi hne => (Below.heap_setCell w ⟨g, k, none⟩ u i (fun e => hne (by rw [e]))).trans (h.block i hi hne)⟩
end

/-! ### append of one value to an owned slice -/
theorem wpList_app1 {P : Program} {ops : Array Oper} {rest : List Oper} {o : Oper} {a : Act} {Q : Exit → Act → World → Prop} (w : World)
    (t e : TypeId) (z : Value) (by8 : Nat) (hg : o.guard = none) (s x : Operand)
    (hop : o.op = Op.call { callee := Callee.builtin Builtin.append, args := #[s, x], argTypes := #[t, t] })
    (ht : P.underlying t = some (.slice e)) (he : (P.info? e).map (fun i => (i.zero, i.size, i.bytes)) = some (some z, 1, by8)) (hzs : z.cells.size = 1) (hby : by8 ≤ 4096)
    (B : Nat) (v : Value) (vs : List Value) (hs : a.eval s = v) (hown : OwnV e w B v vs) (q : Nat) (y : Value)
    (hx : a.eval x = .slice (some ⟨q, 0, none⟩) 1 1) (hy : w.cell? ⟨q, 0, none⟩ = some y) (hy1 : y.oneCell' = true) (hlen : vs.length < 17179869184) (hB : B ≤ w.heap.size)
    (hK : ∀ v' w', OwnV e w' B v' (vs ++ [y]) → w.grownBy w' v.ownBlock → wpList P ops Q rest (a.put o.dst v') w') :
    wpList P ops Q (o :: rest) a w := by
  obtain ⟨i0, hi, hz0, hz1, hz2⟩ := info_parts he
  refine wpList_append_own w hg s x t hop B e i0 z 1 by8 ht hi hz0 hz1 hz2 hzs (by decide) v vs.length vs hs hown ⟨q, 0, none⟩ 1 1 [y] hx rfl ?_ ?_ ?_ ?_ hB ?_
  · intro j u hj
    match j, hj with
    | 0, hj =>
      simp at hj
      subst hj
      exact hy
  · intro u hu
    simp at hu
    subst hu
    exact hy1
  · unfold maxLen
    omega
  · have : (vs.length + 1) * by8 ≤ 17179869184 * 4096 := Nat.mul_le_mul (by omega) hby
    omega
  · intro v' w' h1 h2 _
    refine hK v' w' ?_ h2
    show w'.ownsRow B e 1 v' (vs ++ [y]).length (vs ++ [y])
    simpa using h1

/-- What is left of an append, of old memory: nothing below B has turned. -/
theorem app_below {w w' : World} {B : Nat} {v : Value} {vs : List Value} {e : TypeId} (hown : OwnV e w B v vs) (hg : w.grownBy w' v.ownBlock) (hB : B ≤ w.heap.size) : Below B w w' :=
  grown_below hg hB (fun k hk => (hown.lt k hk).1)

/-! ### a quiet call inside a region that draws -/
theorem quiet_left {P : Program} {f : FuncId} {args : Array Value} {w : World} {n : Nat} {v : Value} (h : Calls P f args (w.drewN n) fun e w' => e = .returned v ∧ w.drewN n = w') :
    Calls P f args (w.drewN n) fun e w'' => e = .returned v ∧ ∃ m, w'' = w.drewN m := h.mono fun _ _ ⟨he, hm⟩ => ⟨he, n, hm.symm⟩
theorem quiet_add_left {P : Program} {f : FuncId} {args : Array Value} {w : World} {a n : Nat} {v : Value} (h : Calls P f args (w.drewN (a + n)) fun e w' => e = .returned v ∧ w.drewN (a + n) = w') :
    Calls P f args (w.drewN (a + n)) fun e w'' => e = .returned v ∧ ∃ m, w'' = w.drewN (a + m) := h.mono fun _ _ ⟨he, hm⟩ => ⟨he, n, hm.symm⟩

/-! ### lists of ints -/
abbrev ints (xs : List Int) : List Value := xs.map (Value.int .i64)
abbrev IntsAt (w : World) (B : Nat) (v : Value) (xs : List Int) : Prop := ReadsV w B v (ints xs)
theorem ints_length (xs : List Int) : (ints xs).length = xs.length := List.length_map _
/-- The element k of a slice of ints. -/
theorem form_ {w : World} {B : Nat} {v : Value} {xs : List Int} (h : IntsAt w B v xs) : ∃ (A : Option Addr) (c : Nat), v = .slice A xs.length c ∧ xs.length ≤ c ∧
    ∀ k, k < xs.length → ∃ b o x, A = some ⟨b, o, none⟩ ∧ b < B ∧ xs[k]? = some x ∧ w.cell? ⟨b, o + k, none⟩ = some (.int .i64 x) := by
  obtain ⟨A, c, hv, hc, hx⟩ := h
  rw [ints_length] at hv hc hx
  refine ⟨A, c, hv, hc, fun k hk => ?_⟩
  obtain ⟨b, o, hA, hb, hcell⟩ := hx (by omega)
  refine ⟨b, o, xs[k], hA, hb, List.getElem?_eq_getElem hk, hcell k _ ?_⟩
  simp [List.getElem?_map, List.getElem?_eq_getElem hk]
/-- What was readable in the world W is so in a later one. -/
theorem own_shape {e : TypeId} {w : World} {B : Nat} {v : Value} {xs : List Int} (h : OwnV e w B v (ints xs)) : ∃ A c, v = .slice A xs.length c := by
  obtain ⟨A, c, hv, _⟩ := form_ (own_reads h)
  exact ⟨A, c, hv⟩
theorem reads_shape {w : World} {B : Nat} {v : Value} {xs : List Int} (h : IntsAt w B v xs) : ∃ A c, v = .slice A xs.length c := by
  obtain ⟨A, c, hv, _⟩ := form_ h
  exact ⟨A, c, hv⟩
theorem own_setBelow {e : TypeId} {w : World} {B : Nat} {v : Value} {vs : List Value} (h : OwnV e w B v vs) {b : Nat} (hb : b < B) (o : Nat) (u : Value) : OwnV e (w.setCell ⟨b, o, none⟩ u) B v vs := ownsRow_setCell_below h (by exact hb) u
theorem own_setNe {e : TypeId} {w : World} {B : Nat} {v : Value} {vs : List Value} (h : OwnV e w B v vs) {b : Nat} (hb : ∀ k, v.ownBlock = some k → b ≠ k) (o : Nat) (u : Value) : OwnV e (w.setCell ⟨b, o, none⟩ u) B v vs :=
  own_grown h (row := some b) ⟨rfl, rfl, rfl, by simp [World.setCell], fun k _ hne => Below.heap_setCell w ⟨b, o, none⟩ u k (fun e => hne (by rw [e]))⟩ (fun k hk e => hb k hk (Option.some.inj e))
/-- What is owned from B on, its block from C on: two facts. -/
theorem own_far {e : TypeId} {w : World} {B C D : Nat} {v : Value} {vs : List Value} (h : OwnV e w B v vs) (hD : D ≤ B) (hC : C ≤ B) : OwnV e w D v vs ∧ ∀ k, v.ownBlock = some k → C ≤ k :=
  ⟨own_mono h hD, fun k hk => Nat.le_trans hC (own_block h k hk).1⟩
theorem now_ {W w' : World} {v : Value} {xs : List Int} (h : IntsAt W W.heap.size v xs) (c : Below W.heap.size W w') : IntsAt w' w'.heap.size v xs := ReadsV.on h c (Nat.le_refl _) (Nat.le_refl _)
theorem nxt {a b c : World} (h : Below a.heap.size a b) (k : Below b.heap.size b c) : Below a.heap.size a c := below_step h k h.size
theorem int_one (x : Int) : (Value.int .i64 x).oneCell' = true := rfl
theorem ints_snoc (xs : List Int) (x : Int) : ints (xs ++ [x]) = ints xs ++ [Value.int .i64 x] := by simp [ints]

theorem take_snoc {α : Type} (xs : List α) (k : Nat) (x : α) (h : xs[k]? = some x) : xs.take (k + 1) = xs.take k ++ [x] := by
  rw [List.take_add_one, h]
  rfl
theorem take_all {α : Type} (xs : List α) (k : Nat) (h : xs.length ≤ k) : xs.take k = xs := List.take_of_length_le h

/-- 'out = append(out, y)' of ints: T the number of []int, E the number of int; the one-element slice lies in the block just made. -/
theorem wpList_appI {P : Program} {ops : Array Oper} {rest : List Oper} {o : Oper} {a : Act} {Q : Exit → Act → World → Prop} {w : World} {B : Nat} {v : Value} {xs : List Int} {T E : TypeId} (hown : OwnV E w B v (ints xs)) (y : Int)
    (ht : P.underlying T = some (.slice E)) (he : (P.info? E).map (fun i => (i.zero, i.size, i.bytes)) = some (some (.int .i64 0), 1, 8)) (hg : o.guard = none) (s x : Operand)
    (hop : o.op = Op.call { callee := Callee.builtin Builtin.append, args := #[s, x], argTypes := #[T, T] }) (hs : a.eval s = v)
    (hx : a.eval x = .slice (some ⟨w.heap.size, 0, none⟩) 1 1) (hlen : xs.length < 17179869184) (hB : B ≤ w.heap.size)
    (hK : ∀ v' w', OwnV E w' B v' (ints (xs ++ [y])) → Below B w w' → w.grownBy w' v.ownBlock → wpList P ops Q rest (a.put o.dst v') w') :
    wpList P ops Q (o :: rest) a (w.alloc (.cells #[.int .i64 y] E)) := by
  refine wpList_app1 _ T E (.int .i64 0) 8 hg s x hop ht he rfl (by decide) B v (ints xs) hs (hown.alloc _) w.heap.size (.int .i64 y) hx (by simp) rfl (by rw [ints_length]; exact hlen) (by simp; omega) ?_
  intro v' w' h1 h2
  have h3 := grown_trans (World.grownBy_alloc w (.cells #[.int .i64 y] E) v.ownBlock) h2
  exact hK v' w' (by rw [ints_snoc]; exact h1) (grown_below h3 hB (fun k hk => (hown.lt k hk).1)) h3

/-- The same of whatever one-cell value. -/
theorem wpList_appV {P : Program} {ops : Array Oper} {rest : List Oper} {o : Oper} {a : Act} {Q : Exit → Act → World → Prop} {w : World} {B : Nat} {v : Value} {vs : List Value} {T E : TypeId} (hown : OwnV E w B v vs) (y z : Value) (by8 : Nat)
    (ht : P.underlying T = some (.slice E)) (he : (P.info? E).map (fun i => (i.zero, i.size, i.bytes)) = some (some z, 1, by8)) (hzs : z.cells.size = 1) (hby : by8 ≤ 4096) (hy1 : y.oneCell' = true) (hg : o.guard = none) (s x : Operand)
    (hop : o.op = Op.call { callee := Callee.builtin Builtin.append, args := #[s, x], argTypes := #[T, T] }) (hs : a.eval s = v)
    (hx : a.eval x = .slice (some ⟨w.heap.size, 0, none⟩) 1 1) (hlen : vs.length < 17179869184) (hB : B ≤ w.heap.size)
    (hK : ∀ v' w', OwnV E w' B v' (vs ++ [y]) → Below B w w' → w.grownBy w' v.ownBlock → wpList P ops Q rest (a.put o.dst v') w') :
    wpList P ops Q (o :: rest) a (w.alloc (.cells #[y] E)) := by
  refine wpList_app1 _ T E z by8 hg s x hop ht he hzs hby B v vs hs (hown.alloc _) w.heap.size y hx (by simp) hy1 hlen (by simp; omega) ?_
  intro v' w' h1 h2
  have h3 := grown_trans (World.grownBy_alloc w (.cells #[y] E) v.ownBlock) h2
  exact hK v' w' h1 (grown_below h3 hB (fun k hk => (hown.lt k hk).1)) h3

/-- 'make([]T, n)', T of one cell. -/
theorem wpList_makeV {P : Program} {ops : Array Oper} {rest : List Oper} {o : Oper} {a : Act} {Q : Exit → Act → World → Prop} {w : World} {T E : TypeId} (z : Value) (by8 : Nat) (n : Nat)
    (ht : P.underlying T = some (.slice E)) (he : (P.info? E).map (fun i => (i.zero, i.size, i.bytes)) = some (some z, 1, by8)) (hz : z.cells = #[z]) (hby : by8 ≤ 4096) (hn : n ≤ 17179869184) (hg : o.guard = none) (l c : Operand)
    (hop : o.op = Op.makeSlice T l c) (hl : a.eval l = .int .i64 (n : Int)) (hc : a.eval c = .int .i64 (n : Int))
    (hK : ∀ w', OwnV E w' w.heap.size (.slice (some ⟨w.heap.size, 0, none⟩) n n) (List.replicate n z) → Below w.heap.size w w' → wpList P ops Q rest (a.put o.dst (.slice (some ⟨w.heap.size, 0, none⟩) n n)) w') :
    wpList P ops Q (o :: rest) a w := by
  obtain ⟨i0, hi, hz0, hz1, hz2⟩ := info_parts he
  refine wpList_make_full w hg l c T hop w.heap.size E i0 z 1 ht hi hz0 hz1 .i64 .i64 n n n hl hc rfl rfl ?_ (by unfold maxLen; omega) (Nat.le_refl _) ?_
  · rw [hz2]
    have : by8 * n ≤ 4096 * 17179869184 := Nat.mul_le_mul hby hn
    omega
  · intro w' h1 h2
    refine hK w' ?_ (grown_below h2 (Nat.le_refl _) (fun k hk => by cases hk))
    rw [hz, Nat.mul_one, toList_madeCells_one] at h1
    unfold OwnV
    rw [List.length_replicate]
    exact h1

/-! ### a string as a list of bytes: '.string ⟨l.toArray⟩' -/
theorem bget (l : List UInt8) (k : Nat) (c : UInt8) (h : l[k]? = some c) : ∃ hk : k < (⟨l.toArray⟩ : ByteArray).size, (⟨l.toArray⟩ : ByteArray)[k]'hk = c := by
  obtain ⟨hk, hc⟩ := List.getElem?_eq_some_iff.1 h
  exact ⟨hk, hc⟩

/-- Bytes as values. -/
abbrev bytesV (l : List UInt8) : List Value := l.map (fun c => Value.int .u8 (c.toNat : Int))
theorem bytesV_snoc (l : List UInt8) (c : UInt8) : bytesV (l ++ [c]) = bytesV l ++ [Value.int .u8 (c.toNat : Int)] := by simp [bytesV]
theorem foldl_push (l : List UInt8) : ∀ r : List UInt8, (l.map (fun c => (c.toNat : Int))).foldl (fun (r : ByteArray) n => r.push (UInt8.ofNat n.toNat)) ⟨r.toArray⟩ = ⟨(r ++ l).toArray⟩ := by
  induction l with
  | nil => intro r; simp
  | cons c l ih =>
    intro r
    rw [List.map_cons, List.foldl_cons]
    have e : (ByteArray.mk r.toArray).push (UInt8.ofNat ((c.toNat : Int)).toNat) = ⟨(r ++ [c]).toArray⟩ := by
      simp [ByteArray.push]
    rw [e, ih]
    simp
/-- string(b), b a slice of bytes that the call owns. -/
theorem own_str {P : Program} {src dst E : TypeId} {w : World} {B : Nat} {v : Value} {l : List UInt8} (hs : P.underlying src = some (.slice E)) (he : P.underlying E = some (.int .u8)) (hd : P.underlying dst = some .string) (h : OwnV E w B v (bytesV l)) :
    (convert src dst v).run P w = .ok (.string ⟨l.toArray⟩) w := by
  rcases own_form h with ⟨rfl, hx⟩ | ⟨g, cap, hv, _, _, _⟩
  · have : l = [] := by simpa [bytesV] using hx
    subst this
    rw [run_convert_bytes_string w src dst E none 0 0 hs he hd]
    simp [Conv.bytesToString]
    rfl
  · subst hv
    rw [run_convert_bytes_string w src dst E _ _ _ hs he hd]
    have hl : (loadCells ⟨g, 0, none⟩ (bytesV l).length).run P w = .ok ((l.map (fun c => (c.toNat : Int))).map (Value.int .u8)).toArray w := by
      rw [show (l.map (fun c => (c.toNat : Int))).map (Value.int .u8) = bytesV l from by simp [bytesV]]
      exact run_loadCells_list w ⟨g, 0, none⟩ (bytesV l) (h.cells rfl)
    rw [run_bytesToString w _ _ _ _ hl]
    have := foldl_push l []
    rw [List.nil_append] at this
    rw [show ByteArray.empty = ⟨([] : List UInt8).toArray⟩ from rfl, this]

/-- string([]byte{n}). -/
theorem conv1 {P : Program} {src dst E : TypeId} (hs : P.underlying src = some (.slice E)) (he : P.underlying E = some (.int .u8)) (hd : P.underlying dst = some .string) (W : World) (n : Int) :
    (convert src dst (.slice (some ⟨W.heap.size, 0, none⟩) 1 1)).run P (W.alloc (.cells #[.int .u8 n] E)) = .ok (.string ⟨#[UInt8.ofNat n.toNat]⟩) (W.alloc (.cells #[.int .u8 n] E)) := by
  rw [run_convert_bytes_string _ src dst E _ _ _ hs he hd]
  have hl := run_loadCells_list (P := P) (W.alloc (.cells #[.int .u8 n] E)) ⟨W.heap.size, 0, none⟩ [.int .u8 n] (by
    intro j v hv
    match j, hv with
    | 0, hv => simp at hv; subst hv; simp [Addr.add])
  have hb := run_bytesToString (P := P) (W.alloc (.cells #[.int .u8 n] E)) ⟨W.heap.size, 0, none⟩ 1 1 [n] hl
  rw [hb]
  rfl
/-- Strings as values. -/
abbrev strsV (ls : List (List UInt8)) : List Value := ls.map (fun l => Value.string ⟨l.toArray⟩)
theorem strsV_snoc (ls : List (List UInt8)) (l : List UInt8) : strsV (ls ++ [l]) = strsV ls ++ [Value.string ⟨l.toArray⟩] := by simp [strsV]
theorem strsV_length (ls : List (List UInt8)) : (strsV ls).length = ls.length := List.length_map _
abbrev StrsAt (w : World) (B : Nat) (v : Value) (ls : List (List UInt8)) : Prop := ReadsV w B v (strsV ls)
theorem formS_ {w : World} {B : Nat} {v : Value} {xs : List (List UInt8)} (h : StrsAt w B v xs) : ∃ (A : Option Addr) (c : Nat), v = .slice A xs.length c ∧ xs.length ≤ c ∧
    ∀ k, k < xs.length → ∃ b o x, A = some ⟨b, o, none⟩ ∧ b < B ∧ xs[k]? = some x ∧ w.cell? ⟨b, o + k, none⟩ = some (.string ⟨x.toArray⟩) := by
  obtain ⟨A, c, hv, hc, hx⟩ := h
  rw [strsV_length] at hv hc hx
  refine ⟨A, c, hv, hc, fun k hk => ?_⟩
  obtain ⟨b, o, hA, hb, hcell⟩ := hx (by omega)
  refine ⟨b, o, xs[k], hA, hb, List.getElem?_eq_getElem hk, hcell k _ ?_⟩
  simp [List.getElem?_map, List.getElem?_eq_getElem hk]
theorem nowS_ {W w' : World} {v : Value} {xs : List (List UInt8)} (h : StrsAt W W.heap.size v xs) (c : Below W.heap.size W w') : StrsAt w' w'.heap.size v xs := ReadsV.on h c (Nat.le_refl _) (Nat.le_refl _)
/-- The call returns a slice of strings of its own. -/
def RetSs (e0 : TypeId) (w : World) (ls : List (List UInt8)) (e : Ending) (w' : World) : Prop := ∃ v, e = .returned v ∧ OwnV e0 w' w.heap.size v (strsV ls) ∧ Below w.heap.size w w'

/-! ### endings -/
theorem ret_int {k : IntKind} {a b : Int} (h : a = b) : Ending.returned (.int k a) = .returned (.int k b) := by rw [h]
theorem ret_bool {a b : Bool} (h : a = b) : Ending.returned (.bool a) = .returned (.bool b) := by rw [h]
theorem ret_str {l l' : List UInt8} (h : l = l') : Ending.returned (.string ⟨l.toArray⟩) = .returned (.string ⟨l'.toArray⟩) := by rw [h]
/-- The call returns an int slice of its own. -/
def RetI (e0 : TypeId) (w : World) (xs : List Int) (e : Ending) (w' : World) : Prop := ∃ v, e = .returned v ∧ OwnV e0 w' w.heap.size v (ints xs) ∧ Below w.heap.size w w'
/-- The call returns b, and nothing old has turned. -/
def RetB (w : World) (b : Bool) (e : Ending) (w' : World) : Prop := e = .returned (.bool b) ∧ Below w.heap.size w w'
def RetS (w : World) (l : List UInt8) (e : Ending) (w' : World) : Prop := e = .returned (.string ⟨l.toArray⟩) ∧ Below w.heap.size w w'
/-- The call returns an int and a bool. -/
def RetNB (w : World) (n : Int) (b : Bool) (e : Ending) (w' : World) : Prop := e = .returned (.tuple #[.int .i64 n, .bool b]) ∧ Below w.heap.size w w'
/-- The call returns the int n, and nothing old has turned. -/
def RetN (w : World) (n : Int) (e : Ending) (w' : World) : Prop := e = .returned (.int .i64 n) ∧ Below w.heap.size w w'

/-! ### bits of ints from naught on -/
theorem ofInt_i64 (a : Nat) (ha : a < 9223372036854775808) : (BitVec.ofInt 64 (a : Int)).toNat = a := by
  rw [BitVec.ofInt_natCast, BitVec.toNat_ofNat]
  exact Nat.mod_eq_of_lt (by omega)
theorem i64_and (a b : Nat) (ha : a < 9223372036854775808) (hb : b < 9223372036854775808) : bits .and .i64 (a : Int) (b : Int) = ((a &&& b : Nat) : Int) := by
  have hx : a &&& b < 2 ^ 63 := Nat.and_lt_two_pow _ (by omega)
  show IntKind.i64.wrap ((BitVec.ofInt 64 (a : Int) &&& BitVec.ofInt 64 (b : Int)).toNat : Int) = _
  rw [BitVec.toNat_and, ofInt_i64 a ha, ofInt_i64 b hb, IntKind.wrap_i64]
  omega
theorem i64_or (a b : Nat) (ha : a < 9223372036854775808) (hb : b < 9223372036854775808) : bits .or .i64 (a : Int) (b : Int) = ((a ||| b : Nat) : Int) := by
  have hx : a ||| b < 2 ^ 63 := Nat.or_lt_two_pow (by omega) (by omega)
  show IntKind.i64.wrap ((BitVec.ofInt 64 (a : Int) ||| BitVec.ofInt 64 (b : Int)).toNat : Int) = _
  rw [BitVec.toNat_or, ofInt_i64 a ha, ofInt_i64 b hb, IntKind.wrap_i64]
  omega
end

/- The listed tables: what the rows' condition gives the walks; a start that meets it. -/
section
open Go.ChangeShapes Go.WideShapes Go.ChangeAt Go.RowKit
open Go.Lib

def laidL {H : Type} : List (String × DataW H) := [("math/bits.deBruijn32tab", Rows.laid_math_bits_deBruijn32tab), ("math/bits.deBruijn64tab", Rows.laid_math_bits_deBruijn64tab), ("internal/strconv.uint64pow10", Rows.laid_internal_strconv_uint64pow10)]
set_option maxRecDepth 100000 in
theorem door_met (os : Os) (args : Array Value) : laidMetH Tryz.prog laidL ((World.doorLaid Tryz.prog 24 os).forCall (fun _ _ => 0) ⟨#[], args, []⟩).memory :=
  laidMetH_of_parts3 (fuel := 8) (laidMet_of_run' 8 (by kernel_rfl) (by kernel_rfl)) (by kernel_rfl) (by kernel_rfl)
/-- The table of the powers of ten stands. -/
def Tab (w : World) : Prop := Lib.TabIs Tryz.prog w "internal/strconv.uint64pow10" .u64 Lib.pow10Tab
theorem Tab.on {w w' : World} (h : Tab w) (k : Below w.heap.size w w') : Tab w' := Lib.tabBelow_of_tabIs h w' k
theorem powData : (Rows.laid_internal_strconv_uint64pow10 : DataW Unit) = Lib.tabData .u64 Lib.pow10Tab := rfl
theorem tab_of {W : World} (h : laidMetH Tryz.prog laidL W) : Tab W := by
  rw [MakeChecks.laidMetH_plain _ _ _ (by kernel_rfl)] at h
  have h1 : laidMet Tryz.prog [("internal/strconv.uint64pow10", Rows.laid_internal_strconv_uint64pow10)] W := laidMet.tail (laidMet.tail h)
  rw [powData] at h1
  exact Lib.tabIs_of_head (g := 0) (t := 111) (e := 59) (n := 20) (by kernel_rfl) (by kernel_rfl) (by kernel_rfl) (by kernel_rfl) (by kernel_rfl) (by kernel_rfl) h1
end

/- Walks: small functions on numbers and sets. -/
section
open Go.RowKit

theorem infoI : (Tryz.prog.info? 3).map (fun i => (i.zero, i.size, i.bytes)) = some (some (.int .i64 0), 1, 8) := by kernel_rfl

/-- s is a set of n points. -/
def isSetB (n s : Int) : Bool := decide (0 ≤ n ∧ n ≤ 6 ∧ 0 ≤ s ∧ s < 2 ^ n.toNat)
theorem isSetB_yes {n s : Int} (h : isSetB n s = true) : 0 ≤ n ∧ n ≤ 6 ∧ 0 ≤ s ∧ s < 2 ^ n.toNat := of_decide_eq_true h
theorem isSetB_mk {n s : Int} (h : 0 ≤ n ∧ n ≤ 6 ∧ 0 ≤ s ∧ s < 2 ^ n.toNat) : isSetB n s = true := decide_eq_true h
theorem isSetB_no {n s : Int} (h : ¬ (0 ≤ n ∧ n ≤ 6 ∧ 0 ≤ s ∧ s < 2 ^ n.toNat)) : isSetB n s = false := decide_eq_false h
theorem two_pow_le {n : Int} (h0 : 0 ≤ n) (h : n ≤ 6) : (1 : Int) ≤ 2 ^ n.toNat ∧ (2 : Int) ^ n.toNat ≤ 64 := by
  obtain ⟨k, rfl⟩ := Int.eq_ofNat_of_zero_le h0
  have : k ≤ 6 := by omega
  rw [Int.toNat_natCast]
  match k, this with
  | 0, _ | 1, _ | 2, _ | 3, _ | 4, _ | 5, _ | 6, _ => decide
theorem isSetB_six {s : Int} : isSetB 6 s = decide (0 ≤ s ∧ s < 64) := by
  simp [isSetB]

theorem isSetI (n s : Int) (w : World) :
    Calls Tryz.prog 54 #[.int .i64 n, .int .i64 s] w fun e w' => e = .returned (.bool (isSetB n s)) ∧ w = w' := by
  by_cases h0 : 0 ≤ n
  · by_cases h1 : n ≤ 6
    · obtain ⟨a, b⟩ := two_pow_le h0 h1
      by_cases h2 : 0 ≤ s
      · by_cases h3 : s < 2 ^ n.toNat
        · have H := hide (isSetB_mk ⟨h0, h1, h2, h3⟩)
          go_enter Tryz.func54, Tryz.ntmps54
          go_wp2
          go_ret
          exact ⟨ret_bool H.out.symm, rfl⟩
        · have H := hide (isSetB_no (n := n) (s := s) (fun h => h3 h.2.2.2))
          go_enter Tryz.func54, Tryz.ntmps54
          go_wp2
          go_ret
          exact ⟨ret_bool H.out.symm, rfl⟩
      · have H := hide (isSetB_no (n := n) (s := s) (fun h => h2 h.2.2.1))
        go_enter Tryz.func54, Tryz.ntmps54
        go_wp2
        go_ret
        exact ⟨ret_bool H.out.symm, rfl⟩
    · have H := hide (isSetB_no (n := n) (s := s) (fun h => h1 h.2.1))
      go_enter Tryz.func54, Tryz.ntmps54
      go_wp2
      go_ret
      exact ⟨ret_bool H.out.symm, rfl⟩
  · have H := hide (isSetB_no (n := n) (s := s) (fun h => h0 h.1))
    go_enter Tryz.func54, Tryz.ntmps54
    go_wp2
    go_ret
    exact ⟨ret_bool H.out.symm, rfl⟩

/-- x lies between lo and hi. -/
def inB (x lo hi : Int) : Bool := decide (lo ≤ x ∧ x ≤ hi)
theorem inB_yes {x lo hi : Int} (h : inB x lo hi = true) : lo ≤ x ∧ x ≤ hi := of_decide_eq_true h
theorem inB_mk {x lo hi : Int} (h : lo ≤ x ∧ x ≤ hi) : inB x lo hi = true := decide_eq_true h
theorem inB_no {x lo hi : Int} (h : ¬ (lo ≤ x ∧ x ≤ hi)) : inB x lo hi = false := decide_eq_false h
theorem l1InS (x lo hi : Int) (w : World) :
    Calls Tryz.prog 47 #[.int .i64 x, .int .i64 lo, .int .i64 hi] w fun e w' => e = .returned (.bool (inB x lo hi)) ∧ w = w' := by
  by_cases h : lo ≤ x
  · have H := hide (show inB x lo hi = decide (x ≤ hi) by simp [inB, h])
    go_enter Tryz.func47, Tryz.ntmps47
    go_wp2
    go_ret
    exact ⟨ret_bool H.out.symm, rfl⟩
  · have H := hide (inB_no (x := x) (lo := lo) (hi := hi) (fun h' => h h'.1))
    go_enter Tryz.func47, Tryz.ntmps47
    go_wp2
    go_ret
    exact ⟨ret_bool H.out.symm, rfl⟩

theorem isSetS (n s : Int) (w : World) :
    Calls Tryz.prog 46 #[.int .i64 n, .int .i64 s] w fun e w' => e = .returned (.bool (isSetB n s)) ∧ w = w' := by
  by_cases hn : 0 ≤ n ∧ n ≤ 6
  · obtain ⟨h0, h1⟩ := hn
    obtain ⟨a, b⟩ := two_pow_le h0 h1
    have hin := inB_mk (x := n) ⟨h0, h1⟩
    have H := hide (show isSetB n s = inB s 0 (2 ^ n.toNat - 1) by
      unfold isSetB inB
      apply decide_eq_decide.2
      constructor
      · rintro ⟨_, _, _, _⟩; omega
      · rintro ⟨_, _⟩; exact ⟨h0, h1, by omega, by omega⟩)
    go_enter Tryz.func46, Tryz.ntmps46
    go_wp2_with (go_at_call 47; refine (l1InS _ _ _ _).mono ?_; rintro e w' ⟨rfl, rfl⟩)
    go_ret
    exact ⟨ret_bool H.out.symm, rfl⟩
  · have hin := inB_no (x := n) hn
    have H := hide (isSetB_no (n := n) (s := s) (fun h => hn ⟨h.1, h.2.1⟩))
    go_enter Tryz.func46, Tryz.ntmps46
    go_wp2_with (go_at_call 47; refine (l1InS _ _ _ _).mono ?_; rintro e w' ⟨rfl, rfl⟩)
    go_ret
    exact ⟨ret_bool H.out.symm, rfl⟩
end

/- append to an owned slice of ints, with the word where the result lies. -/
section
open Go.RowKit

theorem wpList_appAt {P : Program} {ops : Array Oper} {rest : List Oper} {o : Oper} {a : Act} {Q : Exit → Act → World → Prop} {w : World} {B : Nat} {v : Value} {xs : List Int} {T E : TypeId} (hown : OwnV E w B v (ints xs)) (y : Int)
    (ht : P.underlying T = some (.slice E)) (he : (P.info? E).map (fun i => (i.zero, i.size, i.bytes)) = some (some (.int .i64 0), 1, 8)) (hg : o.guard = none) (s x : Operand)
    (hop : o.op = Op.call { callee := Callee.builtin Builtin.append, args := #[s, x], argTypes := #[T, T] }) (hs : a.eval s = v)
    (hx : a.eval x = .slice (some ⟨w.heap.size, 0, none⟩) 1 1) (hlen : xs.length < 17179869184) (hB : B ≤ w.heap.size)
    (hK : ∀ v' w', OwnV E w' B v' (ints (xs ++ [y])) → Below B w w' → w.grownBy w' v.ownBlock → (v'.ownBlock = v.ownBlock ∨ v'.ownBlock = some (w.heap.size + 1)) → wpList P ops Q rest (a.put o.dst v') w') :
    wpList P ops Q (o :: rest) a (w.alloc (.cells #[.int .i64 y] E)) := by
  obtain ⟨i0, hi, hz0, hz1, hz2⟩ := info_parts he
  refine wpList_append_own_at (w := w.alloc (.cells #[.int .i64 y] E)) hg s x T hop B E i0 (.int .i64 0) 1 8 ht hi hz0 hz1 hz2 rfl (by decide) v (ints xs).length (ints xs) hs (hown.alloc _) ⟨w.heap.size, 0, none⟩ 1 1 [.int .i64 y] hx rfl ?_ ?_ ?_ ?_ (by simp; omega) ?_
  · intro j u hj
    match j, hj with
    | 0, hj =>
      have h0 : some (Value.int .i64 y) = some u := hj
      cases h0
      show (w.alloc (.cells #[.int .i64 y] E)).cell? ⟨w.heap.size, 0, none⟩ = some (.int .i64 y)
      exact World.cell?_alloc_at _ _ _ _ rfl
  · intro u hu
    simp at hu
    subst hu
    rfl
  · rw [ints_length]; unfold maxLen; omega
  · rw [ints_length]; omega
  · intro v' w' h1 h2 _ h4
    have h3 := grown_trans (World.grownBy_alloc w (.cells #[.int .i64 y] E) v.ownBlock) h2
    have h5 : OwnV E w' B v' (ints (xs ++ [y])) := by
      rw [ints_snoc]
      show w'.ownsRow B E 1 v' (ints xs ++ [Value.int .i64 y]).length (ints xs ++ [Value.int .i64 y])
      simpa using h1
    exact hK v' w' h5 (grown_below h3 hB (fun k hk => (hown.lt k hk).1)) h3 (by simpa using h4)
end

/- Plain laws: the text of a set and its parsing, as functions on lists of bytes. No program is named here. -/
section
theorem snoc_ind {α : Type} {P : List α → Prop} (h0 : P []) (h1 : ∀ l a, P l → P (l ++ [a])) (l : List α) : P l := by
  have h : ∀ r : List α, P r.reverse := by
    intro r
    induction r with
    | nil => exact h0
    | cons a r ih => rw [List.reverse_cons]; exact h1 _ _ ih
  have := h l.reverse
  rwa [List.reverse_reverse] at this
/-- The bytes of a set's points below k. -/
def txtTo (s k : Nat) : List UInt8 := ((List.range k).filter (fun i => s.testBit i)).map (fun i => UInt8.ofNat (97 + i))
/-- The text of a set. -/
def setTxt (s : Nat) : List UInt8 := if s = 0 then [45] else txtTo s 6
theorem txtTo_yes (s k : Nat) (h : s.testBit k = true) : txtTo s (k + 1) = txtTo s k ++ [UInt8.ofNat (97 + k)] := by simp [txtTo, List.range_succ, h]
theorem txtTo_no (s k : Nat) (h : s.testBit k = false) : txtTo s (k + 1) = txtTo s k := by simp [txtTo, List.range_succ, h]
theorem txtTo_len (s k : Nat) : (txtTo s k).length ≤ k := by
  have := List.length_filter_le (fun i => s.testBit i) (List.range k)
  simpa [txtTo] using this

/-- One letter more. -/
def stepSet (s : Nat) (c : Nat) : Option Nat := if 97 ≤ c ∧ c ≤ 102 ∧ s < 2 ^ (c - 97) then some (s + 2 ^ (c - 97)) else none
def parseTo (l : List UInt8) : Option Nat := l.foldlM (fun s c => stepSet s c.toNat) 0
theorem parseTo_nil : parseTo [] = some 0 := rfl
theorem parseTo_snoc (l : List UInt8) (c : UInt8) : parseTo (l ++ [c]) = (parseTo l).bind (fun s => stepSet s c.toNat) := by
  simp [parseTo, List.foldlM_append]
theorem parseTo_append_none (l r : List UInt8) (h : parseTo l = none) : parseTo (l ++ r) = none := by
  unfold parseTo at h ⊢
  rw [List.foldlM_append, h]
  rfl
/-- What has been read is a set, of as many points as letters. -/
theorem parseTo_lt : ∀ (l : List UInt8) (s : Nat), parseTo l = some s → s < 64 ∧ 2 ^ l.length ≤ s + 1 := by
  intro l
  refine snoc_ind (P := fun l => ∀ s, parseTo l = some s → s < 64 ∧ 2 ^ l.length ≤ s + 1) ?_ ?_ l
  · intro s h; cases h; decide
  · intro l c ih s h
    rw [parseTo_snoc] at h
    obtain ⟨s0, h0, h1⟩ := Option.bind_eq_some_iff.1 h
    obtain ⟨a, b⟩ := ih s0 h0
    unfold stepSet at h1
    split at h1
    · rename_i hc
      obtain ⟨c1, c2, c3⟩ := hc
      cases h1
      have h6 : 2 ^ (c.toNat - 97) ≤ 2 ^ 5 := Nat.pow_le_pow_right (by omega) (by omega)
      rw [List.length_append]
      simp only [List.length_cons, List.length_nil, Nat.zero_add, Nat.pow_succ]
      omega
    · cases h1
/-- The last letter read is the set's last point. -/
theorem parseTo_last (l : List UInt8) (c : UInt8) (s : Nat) (h : parseTo (l ++ [c]) = some s) : 97 ≤ c.toNat ∧ c.toNat ≤ 102 ∧ 2 ^ (c.toNat - 97) ≤ s ∧ s < 2 ^ (c.toNat - 97 + 1) := by
  rw [parseTo_snoc] at h
  obtain ⟨s0, h0, h1⟩ := Option.bind_eq_some_iff.1 h
  unfold stepSet at h1
  split at h1
  · rename_i hc
    obtain ⟨c1, c2, c3⟩ := hc
    cases h1
    rw [Nat.pow_succ]
    omega
  · cases h1
/-- What ParseSet gives: the set and whether the text is one. -/
def parseSet (l : List UInt8) : Nat × Bool := if l = [45] then (0, true) else match parseTo l with
  | some s => (s, !l.isEmpty)
  | none => (0, false)
theorem parseSet_dash : parseSet [45] = (0, true) := rfl
theorem parseSet_some (l : List UInt8) (s : Nat) (h : parseTo l = some s) (hd : l ≠ [45]) : parseSet l = (s, !l.isEmpty) := by
  unfold parseSet
  rw [if_neg hd, h]
theorem parseSet_none (l : List UInt8) (h : parseTo l = none) (hd : l ≠ [45]) : parseSet l = (0, false) := by
  unfold parseSet
  rw [if_neg hd, h]
/-- A prefix that is no set makes the whole none. -/
theorem parseTo_take_none (l : List UInt8) (k : Nat) (h : parseTo (l.take k) = none) : parseTo l = none := by
  rw [← List.take_append_drop k l]
  exact parseTo_append_none _ _ h
theorem parseTo_long (l : List UInt8) (h : 6 < l.length) : parseTo l = none := by
  cases hp : parseTo l with
  | none => rfl
  | some s =>
    obtain ⟨a, b⟩ := parseTo_lt l s hp
    have : 2 ^ 7 ≤ 2 ^ l.length := Nat.pow_le_pow_right (by omega) h
    omega
end

/- Plain laws: sets of at most six points as numbers below 64, families of such sets. No program is named here. -/
section
/-- How many bits a number has that are one. -/
def pcF : Nat → Nat → Nat
  | 0, _ => 0
  | f + 1, s => if s = 0 then 0 else s % 2 + pcF f (s / 2)
def pc (s : Nat) : Nat := pcF s s
theorem pcF_fuel : ∀ (f g k : Nat), k ≤ f → k ≤ g → pcF f k = pcF g k := by
  intro f
  induction f with
  | zero =>
    intro g k h _
    have : k = 0 := by omega
    subst this
    cases g <;> simp [pcF]
  | succ f ih =>
    intro g k hf hg
    by_cases h0 : k = 0
    · subst h0
      cases g <;> simp [pcF]
    · cases g with
      | zero => omega
      | succ g =>
        simp only [pcF, if_neg h0]
        rw [ih g (k / 2) (by omega) (by omega)]
theorem pc_zero : pc 0 = 0 := rfl
theorem pc_pos {k : Nat} (h : 0 < k) : pc k = k % 2 + pc (k / 2) := by
  unfold pc
  cases k with
  | zero => omega
  | succ n =>
    rw [pcF, if_neg (by omega), pcF_fuel n ((n + 1) / 2) ((n + 1) / 2) (by omega) (Nat.le_refl _)]
theorem pcF_le : ∀ f k, pcF f k ≤ f := by
  intro f
  induction f with
  | zero => intro k; simp [pcF]
  | succ f ih =>
    intro k
    simp only [pcF]
    split
    · omega
    · have := ih (k / 2)
      omega
theorem pc_le (k : Nat) : pc k ≤ k := pcF_le k k
theorem pc_bits : ∀ n k, k < 2 ^ n → pc k ≤ n := by
  intro n
  induction n with
  | zero => intro k h; have : k = 0 := by omega
            subst this; decide
  | succ n ih =>
    intro k h
    by_cases h0 : 0 < k
    · rw [pc_pos h0]
      have := ih (k / 2) (by rw [Nat.pow_succ] at h; omega)
      omega
    · have : k = 0 := by omega
      subst this
      rw [pc_zero]
      omega
theorem pc_le6 : ∀ s, s < 64 → pc s ≤ 6 := by decide +kernel

/-- The set a lies in the set b. -/
def sub (a b : Nat) : Bool := a &&& b == a
/-- The order: by size, then by number. -/
def before (a b : Nat) : Bool := decide (pc a < pc b) || (pc a == pc b && decide (a < b))
/-- The sets of k points that a family has, by number. -/
def layer (P : Nat → Bool) (k : Nat) : List Nat := (List.range 64).filter fun s => P s && pc s == k
/-- The sets of a family in order. -/
def listOf (P : Nat → Bool) : List Nat := (List.range 7).flatMap fun k => layer P k
theorem layer_congr {P Q : Nat → Bool} (h : ∀ s, s < 64 → P s = Q s) (k : Nat) : layer P k = layer Q k := by
  unfold layer
  apply List.filter_congr
  intro s hs
  rw [h s (List.mem_range.1 hs)]
theorem listOf_congr {P Q : Nat → Bool} (h : ∀ s, s < 64 → P s = Q s) : listOf P = listOf Q := by
  unfold listOf
  congr 1
  funext k
  exact layer_congr h k
theorem mem_layer {P : Nat → Bool} {k s : Nat} : s ∈ layer P k ↔ s < 64 ∧ P s = true ∧ pc s = k := by
  simp [layer]
theorem mem_listOf {P : Nat → Bool} {s : Nat} : s ∈ listOf P ↔ s < 64 ∧ P s = true := by
  simp only [listOf, List.mem_flatMap, List.mem_range, mem_layer]
  constructor
  · rintro ⟨k, _, h1, h2, _⟩
    exact ⟨h1, h2⟩
  · rintro ⟨h1, h2⟩
    exact ⟨pc s, by have := pc_le6 s h1; omega, h1, h2, rfl⟩
theorem layer_len (P : Nat → Bool) (k : Nat) : (layer P k).length ≤ 64 := by
  have := List.length_filter_le (fun s => P s && pc s == k) (List.range 64)
  simpa [layer] using this
/-- A number whose bits are a family. -/
def fam (P : Nat → Bool) : Nat := (List.range 64).foldl (fun a s => if P s then a ||| 2 ^ s else a) 0
def famTo (P : Nat → Bool) (k : Nat) : Nat := (List.range k).foldl (fun a s => if P s then a ||| 2 ^ s else a) 0
theorem famTo_succ (P : Nat → Bool) (k : Nat) : famTo P (k + 1) = if P k then famTo P k ||| 2 ^ k else famTo P k := by
  simp [famTo, List.range_succ]
theorem famTo_bit (P : Nat → Bool) : ∀ k s, (famTo P k).testBit s = (decide (s < k) && P s) := by
  intro k
  induction k with
  | zero => intro s; simp [famTo]
  | succ k ih =>
    intro s
    rw [famTo_succ]
    by_cases hp : P k = true
    · rw [if_pos hp, Nat.testBit_or, ih, Nat.testBit_two_pow]
      by_cases h : k = s
      · subst h; simp [hp]
      · have : decide (s < k + 1) = decide (s < k) := decide_eq_decide.2 (by omega)
        simp [h, this]
    · rw [if_neg hp, ih]
      by_cases h : s = k
      · subst h; simp [hp]
      · have : decide (s < k + 1) = decide (s < k) := decide_eq_decide.2 (by omega)
        rw [this]
theorem fam_bit (P : Nat → Bool) (s : Nat) : (fam P).testBit s = (decide (s < 64) && P s) := famTo_bit P 64 s
theorem famTo_lt (P : Nat → Bool) (k : Nat) : famTo P k < 2 ^ k := by
  apply Nat.lt_pow_two_of_testBit
  intro i hi
  rw [famTo_bit]
  simp
  omega
theorem fam_lt (P : Nat → Bool) : fam P < 18446744073709551616 := famTo_lt P 64
theorem fam_eq {P : Nat → Bool} {F : Nat} (hF : F < 18446744073709551616) (h : ∀ s, s < 64 → F.testBit s = P s) : F = fam P := by
  apply Nat.eq_of_testBit_eq
  intro i
  rw [fam_bit]
  by_cases hi : i < 64
  · rw [h i hi]; simp [hi]
  · have : F < 2 ^ i := Nat.lt_of_lt_of_le hF (Nat.pow_le_pow_right (n := 2) (by omega) (show 64 ≤ i by omega))
    rw [Nat.testBit_lt_two_pow this]; simp [hi]
theorem fam_congr {P Q : Nat → Bool} (h : ∀ s, s < 64 → P s = Q s) : fam P = fam Q :=
  fam_eq (fam_lt P) (fun s hs => by rw [fam_bit, h s hs]; simp [hs])
theorem fam_or (P Q : Nat → Bool) : fam P ||| fam Q = fam (fun s => P s || Q s) :=
  fam_eq (Nat.or_lt_two_pow (n := 64) (fam_lt P) (fam_lt Q)) (fun s hs => by rw [Nat.testBit_or, fam_bit, fam_bit]; simp [hs])
theorem fam_and (P Q : Nat → Bool) : fam P &&& fam Q = fam (fun s => P s && Q s) :=
  fam_eq (Nat.and_lt_two_pow (n := 64) _ (fam_lt Q)) (fun s hs => by rw [Nat.testBit_and, fam_bit, fam_bit]; simp [hs])
theorem fam_zero : fam (fun _ => false) = 0 := by decide +kernel

/-- Numbers as ints. -/
abbrev zs (l : List Nat) : List Int := l.map (fun (n : Nat) => (n : Int))
theorem zs_snoc (l : List Nat) (n : Nat) : zs (l ++ [n]) = zs l ++ [(n : Int)] := by simp [zs]
theorem zs_append (l r : List Nat) : zs (l ++ r) = zs l ++ zs r := by simp [zs]
/-- Of the layer k the sets below s. -/
def layTo (P : Nat → Bool) (k s : Nat) : List Nat := (List.range s).filter fun t => P t && pc t == k
theorem layTo_yes {P : Nat → Bool} {k s : Nat} (h : P s = true) (hk : pc s = k) : layTo P k (s + 1) = layTo P k s ++ [s] := by simp [layTo, List.range_succ, h, hk]
theorem layTo_no {P : Nat → Bool} {k s : Nat} (h : ¬ (P s = true ∧ pc s = k)) : layTo P k (s + 1) = layTo P k s := by
  have : (P s && pc s == k) = false := by
    cases hp : P s
    · simp
    · have : ¬ pc s = k := fun e => h ⟨hp, e⟩
      simp [this]
  simp [layTo, List.range_succ, this]
theorem layTo_len (P : Nat → Bool) (k s : Nat) : (layTo P k s).length ≤ s := by
  have := List.length_filter_le (fun t => P t && pc t == k) (List.range s)
  simpa [layTo] using this
theorem layTo_all (P : Nat → Bool) (k : Nat) : layTo P k 64 = layer P k := rfl
/-- The layers below k. -/
def lows (P : Nat → Bool) (k : Nat) : List Nat := (List.range k).flatMap fun j => layer P j
theorem lows_succ (P : Nat → Bool) (k : Nat) : lows P (k + 1) = lows P k ++ layer P k := by simp [lows, List.range_succ]
theorem lows_all (P : Nat → Bool) : lows P 7 = listOf P := rfl
theorem lows_len (P : Nat → Bool) : ∀ k, (lows P k).length ≤ 64 * k := by
  intro k
  induction k with
  | zero => simp [lows]
  | succ k ih =>
    rw [lows_succ, List.length_append]
    have := layer_len P k
    omega
theorem listOf_len (P : Nat → Bool) : (listOf P).length ≤ 448 := lows_len P 7

/-! ### families out of lists, subsets of a set -/
theorem fam_add (P : Nat → Bool) (m : Nat) (h : m < 64) : fam P ||| 2 ^ m = fam (fun s => P s || s == m) := by
  apply fam_eq
  · exact Nat.or_lt_two_pow (n := 64) (fam_lt P) (Nat.pow_lt_pow_right (by omega) h)
  · intro s hs
    rw [Nat.testBit_or, fam_bit, Nat.testBit_two_pow]
    have : decide (m = s) = (s == m) := by
      by_cases e : m = s
      · subst e; simp
      · simp [e]; omega
    simp [hs, this]
/-- The numbers that a list of ints has. -/
def inList (xs : List Int) (s : Nat) : Bool := xs.contains (s : Int)
theorem inList_snoc (xs : List Int) (m s : Nat) : inList (xs ++ [(m : Int)]) s = (inList xs s || s == m) := by
  unfold inList
  rw [Bool.eq_iff_iff]
  have h : ((s : Int) = (m : Int)) ↔ s = m := by omega
  simp only [List.contains_eq_mem, List.mem_append, List.mem_singleton, decide_eq_true_eq, Bool.or_eq_true, beq_iff_eq, h]
/-- All of a list are sets of six points. -/
def allSets (xs : List Int) : Bool := xs.all (fun x => decide (0 ≤ x ∧ x < 64))
theorem allSets_snoc (xs : List Int) (x : Int) : allSets (xs ++ [x]) = (allSets xs && decide (0 ≤ x ∧ x < 64)) := by simp [allSets]
theorem allSets_at {xs : List Int} (h : allSets xs = true) {x : Int} (hx : x ∈ xs) : 0 ≤ x ∧ x < 64 := by
  have := List.all_eq_true.1 h x hx
  simpa using this
theorem allSets_take_false {xs : List Int} {k : Nat} (h : allSets (xs.take k) = false) : allSets xs = false := by
  rw [← List.take_append_drop k xs]
  unfold allSets at h ⊢
  rw [List.all_append, h]
  rfl
/-- The family of a list: its number, 0 where one of the list is no set. -/
def famList (xs : List Int) : Nat := fam (inList xs)
theorem famList_nil : famList [] = 0 := by decide +kernel
def famRes (xs : List Int) : Nat := if allSets xs then famList xs else 0
theorem famRes_yes {xs : List Int} (h : allSets xs = true) : famRes xs = famList xs := by simp [famRes, h]
theorem famRes_no {xs : List Int} (h : allSets xs = false) : famRes xs = 0 := by simp [famRes, h]
def prevOk (s t : Nat) : Bool := !(sub t s && decide (0 < t)) || (sub ((t - 1) &&& s) s && decide (((t - 1) &&& s) < t) && (List.range 64).all fun u => !(sub u s && decide (u < t)) || decide (u ≤ ((t - 1) &&& s)))
theorem prevOk_all : ((List.range 64).all fun s => (List.range 64).all fun t => prevOk s t) = true := by decide +kernel
theorem prev_sub {s t : Nat} (hs : s < 64) (ht : t < 64) (h : sub t s = true) (h0 : 0 < t) : sub ((t - 1) &&& s) s = true ∧ ((t - 1) &&& s) < t ∧ ∀ u, u < 64 → sub u s = true → u < t → u ≤ ((t - 1) &&& s) := by
  have h1 := List.all_eq_true.1 (List.all_eq_true.1 prevOk_all s (List.mem_range.2 hs)) t (List.mem_range.2 ht)
  unfold prevOk at h1
  rw [h, decide_eq_true h0] at h1
  simp only [Bool.and_self, Bool.not_true, Bool.false_or, Bool.and_eq_true, decide_eq_true_eq] at h1
  refine ⟨h1.1.1, h1.1.2, fun u hu hus hut => ?_⟩
  have h2 := List.all_eq_true.1 h1.2 u (List.mem_range.2 hu)
  rw [hus, decide_eq_true hut] at h2
  simpa using h2
theorem above_step {s t : Nat} (hs : s < 64) (ht : t < 64) (h : sub t s = true) (h0 : 0 < t) : fam (fun u => sub u s && decide (t < u) || u == t) = fam (fun u => sub u s && decide (((t - 1) &&& s) < u)) := by
  obtain ⟨p1, p2, p3⟩ := prev_sub hs ht h h0
  apply fam_congr
  intro u hu
  rw [Bool.eq_iff_iff]
  simp only [Bool.or_eq_true, Bool.and_eq_true, decide_eq_true_eq, beq_iff_eq]
  constructor
  · rintro (⟨a, b⟩ | rfl)
    · exact ⟨a, by omega⟩
    · exact ⟨h, p2⟩
  · rintro ⟨a, b⟩
    rcases Nat.lt_trichotomy u t with c | c | c
    · have := p3 u hu a c
      omega
    · exact .inr c
    · exact .inl ⟨a, c⟩
theorem above_all {s : Nat} : fam (fun u => sub u s && decide (0 < u) || u == 0) = fam (fun u => sub u s) := by
  apply fam_congr
  intro u _
  rw [Bool.eq_iff_iff]
  simp only [Bool.or_eq_true, Bool.and_eq_true, decide_eq_true_eq, beq_iff_eq]
  constructor
  · rintro (⟨a, _⟩ | rfl)
    · exact a
    · simp [sub]
  · intro a
    rcases Nat.eq_zero_or_pos u with c | c
    · exact .inr c
    · exact .inl ⟨a, c⟩
theorem above_start {s : Nat} (_hs : s < 64) : fam (fun u => sub u s && decide (s < u)) = 0 := by
  rw [← fam_zero]
  apply fam_congr
  intro u _
  rw [Bool.eq_false_iff]
  intro h
  simp only [Bool.and_eq_true, decide_eq_true_eq] at h
  have h1 : u &&& s = u := by simpa [sub] using h.1
  have h2 : u &&& s ≤ s := Nat.and_le_right
  omega
theorem sub_refl (s : Nat) : sub s s = true := by simp [sub]
theorem sub_le {a b : Nat} (h : sub a b = true) : a ≤ b := by
  have h1 : a &&& b = a := by simpa [sub] using h
  have h2 : a &&& b ≤ b := Nat.and_le_right
  omega
end
end Go.Proofs.YtmkacjpjcfffmabGreatDoor
