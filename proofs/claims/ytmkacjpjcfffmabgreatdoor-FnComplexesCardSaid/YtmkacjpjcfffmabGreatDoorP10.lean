/- Texts of one kind, laid together (9 of them). -/
import Derived.Deep.RegionLaw
import Derived.Maps.AppendAt
import Derived.Lib.ItoaNum
import Derived.Lib.ItoaLen
import Derived.Test.YtmkacjpjcfffmabGreatDoorP2
import Derived.Test.YtmkacjpjcfffmabGreatDoorP3
import Derived.Test.YtmkacjpjcfffmabGreatDoorP4
import Derived.Test.YtmkacjpjcfffmabGreatDoorP5
import Derived.Test.YtmkacjpjcfffmabGreatDoorP6
import Derived.Test.YtmkacjpjcfffmabGreatDoorP7
import Derived.Test.YtmkacjpjcfffmabGreatDoorP8
import Derived.Test.YtmkacjpjcfffmabGreatDoorP9
namespace Go.Proofs.YtmkacjpjcfffmabGreatDoor
/- Walks: the draws of complexes: l3Draw. -/
section
open Go.RowKit

def fewB (n : Int) (xs : List Int) : Bool := decide (-100 ≤ n ∧ n ≤ 100 ∧ xs.length ≤ 900) && xs.all fun x => decide (-100 ≤ x ∧ x ≤ 100)
theorem few_of {n : Int} {xs : List Int} (h : fewB n xs = true) : Few 900 n xs := by
  unfold fewB at h
  obtain ⟨h1, h2⟩ := Bool.and_eq_true_iff.1 h
  obtain ⟨a, b, c⟩ := of_decide_eq_true h1
  exact ⟨a, b, c, fun x hx => of_decide_eq_true (List.all_eq_true.1 h2 x hx)⟩
/-- The complexes that are drawn by their text. -/
def drawTexts : List (List UInt8) := [[54, 58, 97, 98, 99, 44, 97, 99, 100, 44, 97, 98, 101, 44, 97, 100, 101, 44, 98, 99, 102, 44, 99, 100, 102, 44, 98, 101, 102, 44, 100, 101, 102], [54, 58, 97, 99, 100, 44, 98, 99, 100, 44, 97, 98, 101, 44, 97, 99, 101, 44, 98, 100, 101, 44, 97, 98, 102, 44, 98, 99, 102, 44, 97, 100, 102, 44, 99, 101, 102, 44, 100, 101, 102], [54, 58, 97, 98, 100, 44, 97, 98, 101, 44, 97, 99, 101, 44, 98, 99, 101, 44, 99, 100, 101, 44, 97, 99, 102, 44, 98, 99, 102, 44, 97, 100, 102, 44, 98, 100, 102], [53, 58, 97, 98, 44, 98, 99, 44, 99, 100, 44, 97, 101, 44, 100, 101], [52, 58, 97, 98, 44, 98, 99, 44, 99, 100], [54, 58, 97, 98, 44, 99, 100, 44, 101, 102], [53, 58, 97, 98, 99, 44, 99, 100, 101], [52, 58, 97, 98, 99, 44, 97, 98, 100]]
theorem drawTexts_few : (drawTexts.all fun l => fewB (pcxN l) (pcxXs l) && decide (l.length ≤ 100)) = true := by decide +kernel
theorem border_few : ((List.range 7).all fun m => fewB (borderN (m : Int)) (borderXs (m : Int))) = true := by decide +kernel
set_option maxHeartbeats 1600000 in
theorem l3DrawS (p : Nat) (v : Value) (L : List UInt8) (W : World) (h : CurAt W p v L) (hL : L.length ≤ 1073741824) :
    Calls Tryz.prog 34 #[.pointer (some ⟨p, 0, none⟩)] W fun e W' => RetD 900 W p v L e W' := by
  have D0 := hide (Dr.start h 26)
  obtain ⟨w1, hW1⟩ : ∃ X, W.alloc (.cells #[.int .i64 0, .slice none 0 0] 26) = X := ⟨_, rfl⟩
  rw [hW1] at D0
  have hp := h.lt
  clear h
  go_enter Tryz.func34, Tryz.ntmps34
  go_wp2_with fail
  clear hW1
  refine (pickLitIntS p v L [1, 2, 3, 4, 4, 5, 5, 6] _ w1 D0.out.cur hL (by decide) (by decide)).mono ?_
  rintro e w2 ⟨x, hx, rfl, c2, g2⟩
  have D2 := hide (D0.out.draw c2 g2)
  have hx' : 1 ≤ x ∧ x ≤ 6 := by
    simp only [List.mem_cons, List.not_mem_nil, or_false] at hx
    omega
  obtain ⟨m, rfl⟩ := Int.eq_ofNat_of_zero_le (by omega : 0 ≤ x)
  have hm1 : 1 ≤ m := by omega
  have hm6 : m ≤ 6 := by omega
  clear hx hx' c2 g2 D0
  go_wp2_with fail
  refine (l1BelowS p v L _ w2 D2.out.cur hL (by omega)).mono ?_
  rintro e w3 ⟨r, hr, _, rfl, c3, g3⟩
  have D3 := hide (D2.out.draw c3 g3)
  have hz3 : W.heap.size + 1 ≤ w3.heap.size := by have := D3.out.res.lt; omega
  have Hz3 := hide hz3
  clear c3 g3 hr D2 hz3
  by_cases r0 : r = 0
  · subst r0
    go_wp2_with fail
    refine (borderComplexS (m : Int) w3).mono ?_
    rintro e w4 ⟨u, rfl, o4, b4⟩
    have Hfew := hide (few_of (List.all_eq_true.1 border_few m (List.mem_range.2 (by omega))))
    generalize borderN (m : Int) = n4 at *
    generalize borderXs (m : Int) = xs4 at *
    obtain ⟨A4, c4, rfl⟩ := own_shape o4
    have O4 : Hid (OwnV 3 w4 (W.heap.size + 1) (.slice A4 xs4.length c4) (ints xs4)) := own_mono o4 Hz3.out
    have D4 := hide (D3.out.next b4)
    clear o4 b4 D3
    obtain ⟨w5, hW5, at5, b5, z5⟩ := boxC w4 (.int .i64 n4) (.slice A4 xs4.length c4) 26
    have O5 := hide (own_below O4.out b5)
    have D5 := hide (D4.out.next b5)
    obtain ⟨e0, e1⟩ := at5
    obtain ⟨⟨q0, q1, hq0, hq1⟩, f0, f1⟩ := D5.out.res
    have hr := D5.out.res.lt
    clear b5 z5 O4 D4
    go_wp2
    refine bodyPost_ret (v := .agg #[.int .i64 n4, .slice A4 xs4.length c4]) (by simp [results, Tryz.results34, go_sem, hq0, hq1]) rfl ?_
    exact D5.out.done O5.out Hfew.out _ _
  · have hr0 : ((r : Int) == 0) = false := by rw [beq_eq_false_iff_ne]; omega
    by_cases r1 : r = 1
    · subst r1
      go_wp2_with fail
      refine (pickLitS p v L drawTexts _ w3 D3.out.cur hL (by decide) (by decide)).mono ?_
      rintro e w4 ⟨l, hl, rfl, c4, g4⟩
      have hfl := List.all_eq_true.1 drawTexts_few l hl
      obtain ⟨hfl1, hfl2⟩ := Bool.and_eq_true_iff.1 hfl
      have Hfew := hide (few_of hfl1)
      have hll := of_decide_eq_true hfl2
      have D4 := hide (D3.out.draw c4 g4)
      clear hfl hfl1 hfl2 c4 g4 hl D3
      go_wp2_with fail
      refine (parseComplexS l w4 (by omega)).mono ?_
      rintro e w5 ⟨u, rfl, o5, b5⟩
      have D5 := hide (D4.out.next b5)
      generalize pcxN l = n4 at *
      generalize pcxXs l = xs4 at *
      obtain ⟨A4, c4, rfl⟩ := own_shape o5
      have O5 : Hid (OwnV 3 w5 (W.heap.size + 1) (.slice A4 xs4.length c4) (ints xs4)) := own_mono o5 (by have := D4.out.res.lt; omega)
      clear o5 b5 D4
      obtain ⟨w6, hW6, at6, b6, z6⟩ := boxC w5 (.int .i64 n4) (.slice A4 xs4.length c4) 26
      have O6 := hide (own_below O5.out b6)
      have D6 := hide (D5.out.next b6)
      obtain ⟨e0, e1⟩ := at6
      obtain ⟨⟨q0, q1, hq0, hq1⟩, f0, f1⟩ := D6.out.res
      have hr := D6.out.res.lt
      clear b6 z6 O5 D5
      go_wp2
      refine bodyPost_ret (v := .agg #[.int .i64 n4, .slice A4 xs4.length c4]) (by simp [results, Tryz.results34, go_sem, hq0, hq1]) rfl ?_
      exact D6.out.done O6.out Hfew.out _ _
    · have hr1 : ((r : Int) == 1) = false := by rw [beq_eq_false_iff_ne]; omega
      by_cases r2 : r = 2 ∨ r = 3
      · have Hz := hide (rfl : (0 : Nat) = 0)
        rcases r2 with rfl | rfl
        all_goals (
          go_wp2_with fail
          refine (l3PureS p v L m w3 hm1 hm6 D3.out.cur hL).mono ?_
          rintro e w4 ⟨n4, u, xs4, hf4, rfl, o4, c4, g4⟩
          have Hfew := hide hf4
          obtain ⟨A4, k4, rfl⟩ := own_shape o4
          have O4 : Hid (OwnV 3 w4 (W.heap.size + 1) (.slice A4 xs4.length k4) (ints xs4)) := own_mono o4 Hz3.out
          have D4 := hide (D3.out.draw c4 g4)
          obtain ⟨⟨q0, q1, hq0, hq1⟩, f0, f1⟩ := D4.out.res
          have hr := D4.out.res.lt
          clear hf4 o4 c4 g4 D3
          go_wp2
          refine bodyPost_ret (v := .agg #[.int .i64 n4, .slice A4 xs4.length k4]) (by simp [results, Tryz.results34, go_sem, hq0, hq1]) rfl ?_
          exact D4.out.done O4.out Hfew.out _ _)
      · have hr2 : ((r : Int) == 2) = false := by rw [beq_eq_false_iff_ne]; omega
        have hr3 : ((r : Int) == 3) = false := by rw [beq_eq_false_iff_ne]; omega
        clear r2
        go_wp2_with fail
        refine (l3SizeS p v L m w3 hm1 hm6 D3.out.cur hL).mono ?_
        rintro e w4 ⟨n4, u, xs4, hf4, rfl, o4, c4, g4⟩
        have Hfew := hide hf4
        obtain ⟨A4, k4, rfl⟩ := own_shape o4
        have O4 : Hid (OwnV 3 w4 (W.heap.size + 1) (.slice A4 xs4.length k4) (ints xs4)) := own_mono o4 Hz3.out
        have D4 := hide (D3.out.draw c4 g4)
        obtain ⟨⟨q0, q1, hq0, hq1⟩, f0, f1⟩ := D4.out.res
        have hr := D4.out.res.lt
        clear hf4 o4 c4 g4 D3
        go_wp2
        refine bodyPost_ret (v := .agg #[.int .i64 n4, .slice A4 xs4.length k4]) (by simp [results, Tryz.results34, go_sem, hq0, hq1]) rfl ?_
        exact D4.out.done O4.out Hfew.out _ _
end

/- Walks: the draws of complexes: l3Bent. -/
section
open Go.RowKit

theorem below_set (w : World) (b o : Nat) (u : Value) : Below b w (w.setCell ⟨b, o, none⟩ u) := (Below.refl b w).setCell (by exact Nat.le_refl _) u
/-- A local box under way. -/
structure Bx (B b : Nat) (x y : Value) (a : World) : Prop where
  at_ : AtC a b x y
  res : Res b a
  far : B ≤ b
theorem Bx.next {B b : Nat} {x y : Value} {a c : World} (h : Bx B b x y a) (k : Below a.heap.size a c) : Bx B b x y c := ⟨h.at_.to k, h.res.to k, h.far⟩
theorem Bx.grown {B b p : Nat} {x y : Value} {a c : World} (h : Bx B b x y a) (g : a.grownBy c (some p)) (hp : p < B) : Bx B b x y c :=
  ⟨h.at_.grown g (fun e => by have := Option.some.inj e; have := h.far; omega), h.res.grown64 g (fun e => by have := Option.some.inj e; have := h.far; omega), h.far⟩
theorem Bx.new {B : Nat} (w : World) (x y : Value) (T : TypeId) (h : B ≤ w.heap.size) : Bx B w.heap.size x y (w.alloc (.cells #[x, y] T)) :=
  ⟨⟨World.cell?_alloc_at _ _ _ _ rfl, World.cell?_alloc_at _ _ _ _ rfl⟩, ⟨⟨_, _, World.cell?_alloc_at _ _ _ _ rfl, World.cell?_alloc_at _ _ _ _ rfl⟩, by simp [go_sem], by simp [go_sem]⟩, h⟩
theorem Bx.low {B b X : Nat} {x y : Value} {a c : World} (h : Bx B b x y a) (k : Below X a c) (hb : b < X) : Bx B b x y c := by
  obtain ⟨hc, hf⟩ := bcell k
  obtain ⟨⟨h0, h1⟩, ⟨⟨u0, u1, c0, c1⟩, f0, f1⟩, hB⟩ := h
  exact ⟨⟨(hc b 0 hb).trans h0, (hc b 1 hb).trans h1⟩, ⟨⟨u0, u1, (hc b 0 hb).trans c0, (hc b 1 hb).trans c1⟩, (hf b 0 hb).trans f0, (hf b 1 hb).trans f1⟩, hB⟩
theorem Bx.set0 {B b : Nat} {x y : Value} {a : World} (h : Bx B b x y a) (z : Value) : Bx B b z y (a.setCell ⟨b, 0, none⟩ z) := by
  obtain ⟨⟨h0, h1⟩, ⟨⟨u0, u1, c0, c1⟩, f0, f1⟩, hB⟩ := h
  refine ⟨⟨by simp [go_sem, h0], by simp [go_sem, h1]⟩, ⟨⟨z, u1, by simp [go_sem, h0], by simp [go_sem, c1]⟩, by simp [go_sem, f0], by simp [go_sem, f1]⟩, hB⟩
theorem Bx.set1 {B b : Nat} {x y : Value} {a : World} (h : Bx B b x y a) (z : Value) : Bx B b x z (a.setCell ⟨b, 1, none⟩ z) := by
  obtain ⟨⟨h0, h1⟩, ⟨⟨u0, u1, c0, c1⟩, f0, f1⟩, hB⟩ := h
  refine ⟨⟨by simp [go_sem, h0], by simp [go_sem, h1]⟩, ⟨⟨u0, z, by simp [go_sem, c0], by simp [go_sem, h1]⟩, by simp [go_sem, f0], by simp [go_sem, f1]⟩, hB⟩
theorem few_app {n x : Int} {xs : List Int} (h : Few 900 n xs) (h0 : -100 ≤ x) (h1 : x ≤ 100) : Few 1000 n (xs ++ [x]) := by
  obtain ⟨a, b, _, d⟩ := h
  refine ⟨a, b, by rw [List.length_append]; simp; omega, fun y hy => ?_⟩
  rcases List.mem_append.1 hy with hy | hy
  · exact d y hy
  · have : y = x := by simpa using hy
    omega
theorem few_more {n : Int} {xs : List Int} (h : Few 900 n xs) : Few 1000 n xs := ⟨h.1, h.2.1, Nat.le_trans h.2.2.1 (by decide), h.2.2.2⟩
/-- A store into a box that is no row of the call's own. -/
theorem own_setBox {B b : Nat} {x y u z : Value} {a : World} {xs : List Int} (h : OwnV 3 a B u (ints xs)) (_hb : Bx B b x y a) (hne : ∀ j, u.ownBlock = some j → b ≠ j) (o : Nat) : OwnV 3 (a.setCell ⟨b, o, none⟩ z) B u (ints xs) := own_setNe h hne _ _

/-- The append of one int as one step of a region that draws its order: what other rows keep, and where the result lies. -/
theorem step_appG {P : Program} {ops : Array Oper} {o : Oper} {a : Act} {K : Act → World → Prop} {Q : Exit → Act → World → Prop} {F : Prop} {w : World} {B : Nat} {v : Value} {xs : List Int} (y : Int) {T E : TypeId} (hown : OwnV E (w.alloc (.cells #[.int .i64 y] E)) B v (ints xs))
    (ht : P.underlying T = some (.slice E)) (he : (P.info? E).map (fun i => (i.zero, i.size, i.bytes)) = some (some (.int .i64 0), 1, 8)) (hg : o.guard = none) (s x : Operand)
    (hop : o.op = Op.call { callee := Callee.builtin Builtin.append, args := #[s, x], argTypes := #[T, T] }) (hs : a.eval s = v)
    (hx : a.eval x = .slice (some ⟨w.heap.size, 0, none⟩) 1 1) (hlen : xs.length < 17179869184) (hB : B ≤ w.heap.size)
    (hK : ∀ v' w', OwnV E w' B v' (ints (xs ++ [y])) → Below B (w.alloc (.cells #[.int .i64 y] E)) w' → (w.alloc (.cells #[.int .i64 y] E)).grownBy w' v.ownBlock → (v'.ownBlock = v.ownBlock ∨ v'.ownBlock = some (w.heap.size + 1)) → K (a.put o.dst v') w') :
    if Region.wanted o (yielded ops a.tmps) = true then Oper.wp P o a (w.alloc (.cells #[.int .i64 y] E)) K Q else F := by
  rw [if_pos (by simp [Region.wanted, hg])]
  obtain ⟨i0, hi, hz0, hz1, hz2⟩ := info_parts he
  have h0 : ∀ j u, [Value.int .i64 y][j]? = some u → (w.alloc (.cells #[.int .i64 y] E)).cell? ((⟨w.heap.size, 0, none⟩ : Addr).add j) = some u := by
    intro j u hj
    match j, hj with
    | 0, hj =>
      have h0 : some (Value.int .i64 y) = some u := hj
      cases h0
      show (w.alloc (.cells #[.int .i64 y] E)).cell? ⟨w.heap.size, 0, none⟩ = some (.int .i64 y)
      exact World.cell?_alloc_at _ _ _ _ rfl
  have h1 : ∀ u ∈ [Value.int .i64 y], u.oneCell' = true := by
    intro u hu
    simp at hu
    subst hu
    rfl
  obtain ⟨v', w', hr, h2, h3, _, h5⟩ := run_append_own_at (P := P) (w.alloc (.cells #[.int .i64 y] E)) B T o.type E i0 (.int .i64 0) 1 8 ht hi hz0 hz1 hz2 rfl (by decide) v (ints xs).length (ints xs) hown ⟨w.heap.size, 0, none⟩ 1 1 [.int .i64 y] rfl h0 h1 (by rw [ints_length]; unfold maxLen; omega) (by rw [ints_length]; omega) (by simp; omega)
  unfold Oper.wp execOp
  simp only [hop, resolve, invoke, builtin, Sem.run_bind, Sem.run_pure, Result.andThen_ok, List.map_toArray, List.map_cons, List.map_nil, hs, hx, hr]
  refine hK v' w' ?_ (grown_below h3 (by simp; omega) (fun k hk => (hown.lt k hk).1)) h3 (by simpa using h5)
  rw [ints_snoc]
  show w'.ownsRow B E 1 v' (ints xs ++ [Value.int .i64 y]).length (ints xs ++ [Value.int .i64 y])
  simpa using h2
theorem Bx.other {B b : Nat} {x y : Value} {a c : World} {row : Option Nat} (h : Bx B b x y a) (g : a.grownBy c row) (hne : row ≠ some b) : Bx B b x y c := ⟨h.at_.grown g hne, h.res.grown64 g hne, h.far⟩

set_option maxHeartbeats 1600000 in
set_option maxRecDepth 100000 in
theorem l3BentS (p : Nat) (v : Value) (L : List UInt8) (W : World) (h : CurAt W p v L) (hL : L.length ≤ 1073741824) :
    Calls Tryz.prog 31 #[.pointer (some ⟨p, 0, none⟩)] W fun e W' => RetD 1000 W p v L e W' := by
  have D0 := hide (Dr.start h 26)
  obtain ⟨w1, hW1⟩ : ∃ X, W.alloc (.cells #[.int .i64 0, .slice none 0 0] 26) = X := ⟨_, rfl⟩
  rw [hW1] at D0
  have hp := h.lt
  have hz1 : W.heap.size + 1 ≤ w1.heap.size := by rw [← hW1]; simp
  clear h
  go_enter Tryz.func31, Tryz.ntmps31
  go_wp2_with fail
  clear hW1
  refine (l3DrawS p v L w1 D0.out.cur hL).mono ?_
  rintro e w2 ⟨n, u, xs, hf, rfl, o2, c2, g2⟩
  have D2 := hide (D0.out.draw c2 g2)
  have O2 := hide (own_mono o2 hz1)
  obtain ⟨A, c, rfl⟩ := own_shape o2
  have Hf := hide hf
  have hz2 : W.heap.size + 1 ≤ w2.heap.size := Nat.le_trans hz1 g2.size
  clear hf o2 c2 g2 D0 hz1
  obtain ⟨w3, hW3⟩ : ∃ X, w2.alloc (.cells #[.int .i64 n, .slice A xs.length c] 26) = X := ⟨_, rfl⟩
  have hb3 := below_alloc w2 (.cells #[.int .i64 n, .slice A xs.length c] 26)
  have B3 := hide (Bx.new (B := W.heap.size + 1) w2 (.int .i64 n) (.slice A xs.length c) 26 hz2)
  rw [hW3] at hb3 B3
  have D3 := hide (D2.out.next hb3)
  have O3 := hide (own_below O2.out hb3)
  have Far : Hid (∀ j, Value.ownBlock (.slice A xs.length c) = some j → j ≠ w2.heap.size) := fun j hj => by have := (own_block O2.out j hj).2; omega
  clear hb3 O2 D2
  go_wp2_with fail
  clear hW3
  refine (l1BelowS p v L _ w3 D3.out.cur hL (by omega)).mono ?_
  rintro e w4 ⟨r, hr, _, rfl, c4, g4⟩
  have D4 := hide (D3.out.draw c4 g4)
  have O4 := hide (own_grown O3.out g4 (fun j hj e => by
    have h1 := (own_block O3.out j hj).1
    have h2 := Option.some.inj e
    omega))
  have B4 := hide (B3.out.grown g4 (by omega))
  clear hr c4 g4 D3 O3 B3
  by_cases r0 : r = 0
  · subst r0
    go_wp2_with fail
    refine (pickLitIntS p v L [0, 7, 2] _ w4 D4.out.cur hL (by decide) (by decide)).mono ?_
    rintro e w5 ⟨y, hy, rfl, c5, g5⟩
    have hy7 : 0 ≤ y ∧ y ≤ 7 := by
      simp only [List.mem_cons, List.not_mem_nil, or_false] at hy
      omega
    have D5 := hide (D4.out.draw c5 g5)
    have O5 := hide (own_grown O4.out g5 (fun j hj e => by
      have h1 := (own_block O4.out j hj).1
      have h2 := Option.some.inj e
      omega))
    have B5 := hide (B4.out.grown g5 (by omega))
    clear hy c5 g5 D4 O4 B4
    obtain ⟨w6, hW6⟩ : ∃ X, w5.setCell ⟨w2.heap.size, 0, none⟩ (.int .i64 y) = X := ⟨_, rfl⟩
    have B6 := hide (B5.out.set0 (.int .i64 y))
    have O6 := hide (own_setNe O5.out (b := w2.heap.size) (fun j hj => fun e => Far.out j hj e.symm) 0 (.int .i64 y))
    have D6 := hide (D5.out.low (B := w2.heap.size) (below_set w5 w2.heap.size 0 (.int .i64 y)) (by omega))
    rw [hW6] at B6 O6 D6
    obtain ⟨a0, a1⟩ := B5.out.at_
    obtain ⟨_, f0, f1⟩ := B5.out.res
    have hbl := B5.out.res.lt
    obtain ⟨b0, b1⟩ := B6.out.at_
    obtain ⟨⟨q0, q1, hq0, hq1⟩, k0, k1⟩ := D6.out.res
    have hr := D6.out.res.lt
    clear O5 B5 D5
    go_wp2
    refine bodyPost_ret (v := .agg #[.int .i64 y, .slice A xs.length c]) (by simp [results, Tryz.results31, go_sem, hq0, hq1]) rfl ?_
    exact D6.out.done O6.out ⟨by omega, by omega, Nat.le_trans Hf.out.2.2.1 (by decide), Hf.out.2.2.2⟩ _ _
  · have hr0 : ((r : Int) == 0) = false := by rw [beq_eq_false_iff_ne]; omega
    by_cases r1 : r = 1
    · subst r1
      have hl1 : xs.length ≤ 900 := Hf.out.2.2.1
      have D4d : Hid (Dr W W.heap.size p v L w4.drew) := D4.out.next (Below.refl _ _).drew
      have B4d : Hid (Bx (W.heap.size + 1) w2.heap.size (.int .i64 n) (.slice A xs.length c) w4.drew) := B4.out.next (Below.refl _ _).drew
      have O4d : Hid (OwnV 3 w4.drew (W.heap.size + 1) (.slice A xs.length c) (ints xs)) := own_below O4.out (Below.refl _ _).drew
      have hne : Hid (∀ j, Value.ownBlock (.slice A xs.length c) = some j → (some p : Option Nat) ≠ some j) := fun j hj e => by
        have h1 := (own_block O4.out j hj).1
        have h2 := Option.some.inj e
        omega
      have C4d : CurAt w4.drew p v L := D4.out.cur
      obtain ⟨a40, a41⟩ := B4d.out.at_
      obtain ⟨_, f40, f41⟩ := B4d.out.res
      have hbl4 := B4d.out.res.lt
      have hlen : xs.length < 17179869184 := by omega
      clear D4 B4 O4
      go_wp2_with fail
      go_region_law (first | (refine step_appG ((q : Int) - 1) oa Tryz.underlying24 infoI rfl _ _ rfl rfl rfl hlen hza ?_; intro v6 w6 ho6 hb6 hg6 hat6; obtain ⟨A6, n6, c6, rfl⟩ := own_shape56 ho6; have B6 := hide (Ba.out.other hg6 (fun e => Far.out _ e rfl)); have D6 := hide (Da.out.low hb6 (Nat.lt_succ_self _)); obtain ⟨a60, a61⟩ := B6.out.at_; obtain ⟨_, f60, f61⟩ := B6.out.res; have hbl6 := B6.out.res.lt; have hne6 : Hid (∀ j, Value.ownBlock (.slice A6 n6 c6) = some j → w2.heap.size ≠ j) := (fun j hj => by rcases hat6 with hh | hh; (· rw [hh] at hj; exact fun e => Far.out j hj e.symm); (· rw [hh] at hj; have := Option.some.inj hj; omega)); clear hat6) | (go_simp; go_at_call 52; refine (l1BelowS p v L _ _ C4d hL (by omega)).mono ?_; rintro e w5 ⟨q, hq, _, rfl, c5, g5⟩; have hq66 := hq (by omega); have hqw : IntKind.i64.wrap ((q : Int) - 1) = (q : Int) - 1 := IntWalk.i64_in _ (by omega); have D5 := hide (D4d.out.draw c5 g5); have B5 := hide (B4d.out.grown g5 (by omega)); have O5 := hide (own_grown O4d.out g5 hne.out); have ba := below_alloc w5 (.cells #[.int .i64 ((q : Int) - 1)] 3); have Da := hide (D5.out.next ba); have Ba := hide (B5.out.next ba); have oa := own_below O5.out ba; obtain ⟨a50, a51⟩ := B5.out.at_; obtain ⟨_, f50, f51⟩ := B5.out.res; obtain ⟨aa0, aa1⟩ := Ba.out.at_; obtain ⟨_, fa0, fa1⟩ := Ba.out.res; have hza := Nat.succ_le_of_lt D5.out.res.lt; have hb5l := B5.out.res.lt))
      all_goals (
        obtain ⟨w7, hW7⟩ : ∃ X, w6.setCell ⟨w2.heap.size, 1, none⟩ (.slice A6 n6 c6) = X := ⟨_, rfl⟩
        have B7 := hide (B6.out.set1 (.slice A6 n6 c6))
        have O7 := hide (own_setNe ho6 (b := w2.heap.size) hne6.out 1 (.slice A6 n6 c6))
        have D7 := hide (D6.out.low (below_set w6 w2.heap.size 1 (.slice A6 n6 c6)) (by omega))
        rw [hW7] at B7 O7 D7
        have Hf7 := hide (few_app Hf.out (by omega : -100 ≤ (q : Int) - 1) (by omega))
        obtain ⟨b0, b1⟩ := B7.out.at_
        obtain ⟨⟨q0, q1, hq0, hq1⟩, k0, k1⟩ := D7.out.res
        have hr := D7.out.res.lt
        clear a40 a41 a50 a51 aa0 aa1 a60 a61 f40 f41 f50 f51 fa0 fa1 f60 f61 ho6 hb6 hg6
        rw [hW7]
        clear hW7
        go_wp2
        refine bodyPost_ret (v := .agg #[.int .i64 n, .slice A6 n6 c6]) (by simp [results, Tryz.results31, go_sem, hq0, hq1]) rfl ?_
        exact D7.out.done O7.out Hf7.out _ _)
    · have hr1 : ((r : Int) == 1) = false := by rw [beq_eq_false_iff_ne]; omega
      obtain ⟨b0, b1⟩ := B4.out.at_
      obtain ⟨⟨q0, q1, hq0, hq1⟩, k0, k1⟩ := D4.out.res
      have hr := D4.out.res.lt
      go_wp2
      refine bodyPost_ret (v := .agg #[.int .i64 n, .slice A xs.length c]) (by simp [results, Tryz.results31, go_sem, hq0, hq1]) rfl ?_
      exact D4.out.done O4.out (few_more Hf.out) _ _
end

/- Walks: the draws of complexes: DrawFaceCounts, DrawFacesOfSize, DrawSkeletonOf, l3Case, DrawDegreeOf, DrawStarOf. -/
section
open Go.RowKit

/-- A draw out of the bytes under way: the result's block r, the cursor p. -/
structure Dq (w : World) (r p : Nat) (v : Value) (L : List UInt8) (a : World) : Prop where
  cur : CurAt a p v L
  bel : Below w.heap.size w a
  res : Res r a
  far : w.heap.size ≤ r
  rp : r < p
theorem Dq.start {w w1 a : World} {r p : Nat} {v : Value} {L : List UInt8} (hr : Res r w1) (h1 : Below w.heap.size w w1) (hB : w.heap.size ≤ r) (hp : w1.heap.size ≤ p) (c : CurAt a p v L) (b : Below w1.heap.size w1 a) : Dq w r p v L a :=
  ⟨c, nxt h1 b, hr.to b, hB, by have := hr.lt; omega⟩
theorem Dq.draw {w a b : World} {r p : Nat} {v : Value} {L : List UInt8} (h : Dq w r p v L a) (c : CurAt b p v L) (g : a.grownBy b (some p)) : Dq w r p v L b :=
  ⟨c, cur_below h.bel h.bel.size g (by have := h.far; have := h.rp; omega), h.res.grown64 g (fun e => by have := Option.some.inj e; have := h.rp; omega), h.far, h.rp⟩
theorem Dq.next {w a b : World} {r p : Nat} {v : Value} {L : List UInt8} (h : Dq w r p v L a) (k : Below a.heap.size a b) : Dq w r p v L b :=
  ⟨h.cur.to k, nxt h.bel k, h.res.to k, h.far, h.rp⟩
theorem Bx.draw {B b p : Nat} {x y : Value} {a c : World} (h : Bx B b x y a) (g : a.grownBy c (some p)) (hp : p < b) : Bx B b x y c := h.other g (fun e => by have := Option.some.inj e; omega)
theorem nowB9 {W w' : World} {v : Value} {L : List UInt8} (h : BytesAt W W.heap.size v L) (c : Below W.heap.size W w') : BytesAt w' w'.heap.size v L := ReadsV.on h c (Nat.le_refl _) (Nat.le_refl _)
/-- The call returns some complex of its own. -/
def RetDX (w : World) (e : Ending) (w' : World) : Prop :=
  ∃ (n : Int) (u : Value) (xs : List Int), Few 1000 n xs ∧ e = .returned (.agg #[.int .i64 n, u]) ∧ OwnV 3 w' w.heap.size u (ints xs) ∧ Below w.heap.size w w'
/-- The call returns some complex of its own and an int. -/
def RetDXI (w : World) (e : Ending) (w' : World) : Prop :=
  ∃ (n : Int) (u : Value) (xs : List Int) (t : Int), Few 1000 n xs ∧ -100 ≤ t ∧ t ≤ 100 ∧ e = .returned (.tuple #[.agg #[.int .i64 n, u], .int .i64 t]) ∧ OwnV 3 w' w.heap.size u (ints xs) ∧ Below w.heap.size w w'
/-- What is stored into the result's block. -/
theorem Dq.own {w a : World} {r p : Nat} {v u : Value} {L : List UInt8} {xs : List Int} (h : Dq w r p v L a) (ho : OwnV 3 a (r + 1) u (ints xs)) (x y : Value) :
    OwnV 3 ((a.setCell ⟨r, 0, none⟩ x).setCell ⟨r, 1, none⟩ y) w.heap.size u (ints xs) ∧ Below w.heap.size w ((a.setCell ⟨r, 0, none⟩ x).setCell ⟨r, 1, none⟩ y) :=
  ⟨own_mono (own_setBelow (own_setBelow ho (Nat.lt_succ_self r) _ _) (Nat.lt_succ_self r) _ _) (by have := h.far; omega), below_store h.bel h.far x y⟩

set_option maxHeartbeats 1600000 in
theorem l3CaseS (v : Value) (L : List UInt8) (w : World) (h : BytesAt w w.heap.size v L) (hL : L.length ≤ 1073741824) :
    Calls Tryz.prog 49 #[v] w fun e w' => RetDXI w e w' := by
  obtain ⟨w1, hW1, _, rs1, b1, z1⟩ := boxRes w 26
  have H1 := hide (nowB9 h b1)
  have Rs1 := hide rs1
  have B1 := hide b1
  have Hz1 := hide z1
  clear h rs1 b1 z1
  go_enter Tryz.func49, Tryz.ntmps49
  go_wp2_with fail
  clear hW1
  refine (l1NewS v L w1 H1.out hL).mono ?_
  rintro e w2 ⟨p, rfl, hp, c2, b2⟩
  have D2 := hide (Dq.start Rs1.out B1.out (Nat.le_refl _) hp c2 b2)
  have hz2 : w.heap.size + 1 ≤ w2.heap.size := by have := Hz1.out; have := b2.size; omega
  clear c2 b2
  go_wp2_with fail
  refine (l3BentS p v L w2 D2.out.cur hL).mono ?_
  rintro e w3 ⟨n, u, xs, hf, rfl, o3, c3, g3⟩
  have D3 := hide (D2.out.draw c3 g3)
  have O3 := hide (own_mono o3 hz2)
  have Hf := hide hf
  obtain ⟨A, c, rfl⟩ := own_shape o3
  have hne : Hid (∀ j, Value.ownBlock (.slice A xs.length c) = some j → (some p : Option Nat) ≠ some j) := fun j hj e => by
    have h1 := (own_block o3 j hj).1
    have h2 := Option.some.inj e
    have h3 := D2.out.cur.lt
    omega
  clear hf o3 c3 g3 D2
  obtain ⟨w4, hW4⟩ : ∃ X, w3.alloc (.cells #[.int .i64 n, .slice A xs.length c] 26) = X := ⟨_, rfl⟩
  have hb4 := below_alloc w3 (.cells #[.int .i64 n, .slice A xs.length c] 26)
  have B4 := hide (Bx.new (B := w.heap.size + 1) w3 (.int .i64 n) (.slice A xs.length c) 26 (by have := D3.out.res.lt; omega))
  rw [hW4] at hb4 B4
  have D4 := hide (D3.out.next hb4)
  have O4 := hide (own_below O3.out hb4)
  have hpb : p < w3.heap.size := D3.out.cur.lt
  clear hb4 O3 D3
  obtain ⟨a40, a41⟩ := B4.out.at_
  have hxl : xs.length ≤ 1000 := Hf.out.2.2.1
  go_wp2_with fail
  refine (facesOfS n _ xs w4 (own_reads O4.out) (by omega)).mono ?_
  rintro e w5 ⟨vf, rfl, of5, b5⟩
  have D5 := hide (D4.out.next b5)
  have B5 := hide (B4.out.next b5)
  have O5 := hide (own_below O4.out b5)
  have hfl := facesOf_len n xs
  have Hm := hide (facesOf_lt n xs)
  obtain ⟨Af, cf, rfl⟩ := own_shape of5
  have F5 := hide of5
  have Hpf : Hid (p < w4.heap.size) := D4.out.cur.lt
  generalize facesOf n xs = fs at *
  have hzl : (zs fs).length = fs.length := List.length_map _
  have hg2 : (fs.length : Int) ≤ 448 := by omega
  clear of5 b5 D4 B4 O4 a40 a41
  by_cases h0 : fs.length = 0
  · have hgt : ((fs.length : Int) > 0) = False := by rw [h0]; simp
    go_wp2_with fail
    have D5d : Hid (Dq w w.heap.size p v L w5.drew) := D5.out.next (Below.refl _ _).drew
    have O5d : Hid (OwnV 3 w5.drew (w.heap.size + 1) (.slice A xs.length c) (ints xs)) := own_below O5.out (Below.refl _ _).drew
    have B5d : Hid (Bx (w.heap.size + 1) w3.heap.size (.int .i64 n) (.slice A xs.length c) w5.drew) := B5.out.next (Below.refl _ _).drew
    obtain ⟨a50, a51⟩ := B5d.out.at_
    have C5d := D5d.out.cur
    go_region_law (go_simp; go_at_call 52; refine (l1BelowS p v L _ _ C5d hL (by omega)).mono ?_; rintro e w6 ⟨q, hq, _, rfl, c6, g6⟩; have hqK := hq (by omega); have hqw : IntKind.i64.wrap ((q : Int) - 1) = (q : Int) - 1 := IntWalk.i64_in _ (by omega); have D6 := hide (D5d.out.draw c6 g6); have B6 := hide (B5d.out.draw g6 hpb); have O6 := hide (own_grown O5d.out g6 hne.out); obtain ⟨a60, a61⟩ := B6.out.at_; obtain ⟨⟨q0, q1, hq0, hq1⟩, f0, f1⟩ := D6.out.res; have hr := D6.out.res.lt)
    all_goals (
      go_wp2
      refine bodyPost_ret (v := .tuple #[.agg #[.int .i64 n, .slice A xs.length c], .int .i64 ((q : Int) - 1)]) (by simp [results, Tryz.results49, go_sem, hq0, hq1]) rfl ?_
      obtain ⟨h1, h2⟩ := D6.out.own O6.out (.int .i64 n) (.slice A xs.length c)
      exact ⟨n, _, xs, _, Hf.out, by omega, by omega, rfl, h1, h2⟩)
  · have hpos : 0 < fs.length := by omega
    clear h0
    go_wp2_with fail
    refine (l1OnceS p v L _ w5 D5.out.cur hL (by omega)).mono ?_
    rintro e w6 ⟨b, rfl, c6, g6⟩
    have D6 := hide (D5.out.draw c6 g6)
    have B6 := hide (B5.out.draw g6 hpb)
    have O6 := hide (own_grown O5.out g6 hne.out)
    have F6 := hide (own_grown F5.out g6 (fun j hj e => by
      have h1 := (own_block F5.out j hj).1
      have h2 := Option.some.inj e
      have h3 := Hpf.out
      omega))
    clear c6 g6 D5 B5 O5 F5
    cases b
    · have F6d : Hid (OwnV 3 w6.drew w4.heap.size (.slice Af (zs fs).length cf) (ints (zs fs))) := own_below F6.out (Below.refl _ _).drew
      have hnf : Hid (∀ j, Value.ownBlock (.slice Af (zs fs).length cf) = some j → (some p : Option Nat) ≠ some j) := fun j hj e => by
        have h1 := (own_block F6.out j hj).1
        have h2 := Option.some.inj e
        have h3 := Hpf.out
        omega
      have D6d : Hid (Dq w w.heap.size p v L w6.drew) := D6.out.next (Below.refl _ _).drew
      have O6d : Hid (OwnV 3 w6.drew (w.heap.size + 1) (.slice A xs.length c) (ints xs)) := own_below O6.out (Below.refl _ _).drew
      have B6d : Hid (Bx (w.heap.size + 1) w3.heap.size (.int .i64 n) (.slice A xs.length c) w6.drew) := B6.out.next (Below.refl _ _).drew
      obtain ⟨a60, a61⟩ := B6d.out.at_
      have C6d := D6d.out.cur
      go_wp2_with fail
      go_region_law (go_simp; go_at_call 52; refine (l1BelowS p v L _ _ C6d hL (by omega)).mono ?_; rintro e w7 ⟨q, hq, _, rfl, c7, g7⟩; have hqK := hq (by omega); have F7 := own_grown F6d.out g7 hnf.out; obtain ⟨_, _, hvf, hef⟩ := zsElems (own_reads F7); rw [hzl] at hvf; cases hvf; obtain ⟨bf, of, s, hA, hs, hcell⟩ := hef q (by omega); have hs64 := Hm.out s (List.mem_of_getElem? hs); cases hA; have hbf : bf ≠ w.heap.size := (by have h1 := (own_block F7 bf rfl).1; have h2 := Hpf.out; have h3 := D6d.out.rp; omega); have D7 := hide (D6d.out.draw c7 g7); have B7 := hide (B6d.out.draw g7 hpb); have O7 := hide (own_grown O6d.out g7 hne.out); obtain ⟨a70, a71⟩ := B7.out.at_; obtain ⟨⟨q0, q1, hq0, hq1⟩, f0, f1⟩ := D7.out.res; have hr := D7.out.res.lt; clear hs hef F7 hq)
      all_goals (
        go_wp2
        refine bodyPost_ret (v := .tuple #[.agg #[.int .i64 n, .slice A xs.length c], .int .i64 (s : Int)]) (by simp [results, Tryz.results49, go_sem, hq0, hq1]) rfl ?_
        obtain ⟨h1, h2⟩ := D7.out.own O7.out (.int .i64 n) (.slice A xs.length c)
        exact ⟨n, _, xs, _, Hf.out, by omega, by omega, rfl, h1, h2⟩)
    · clear F6 hzl
      have D6d : Hid (Dq w w.heap.size p v L w6.drew) := D6.out.next (Below.refl _ _).drew
      have O6d : Hid (OwnV 3 w6.drew (w.heap.size + 1) (.slice A xs.length c) (ints xs)) := own_below O6.out (Below.refl _ _).drew
      have B6d : Hid (Bx (w.heap.size + 1) w3.heap.size (.int .i64 n) (.slice A xs.length c) w6.drew) := B6.out.next (Below.refl _ _).drew
      obtain ⟨a60, a61⟩ := B6d.out.at_
      have C6d := D6d.out.cur
      go_wp2_with fail
      go_region_law (go_simp; go_at_call 52; refine (l1BelowS p v L _ _ C6d hL (by omega)).mono ?_; rintro e w7 ⟨q, hq, _, rfl, c7, g7⟩; have hqK := hq (by omega); have hqw : IntKind.i64.wrap ((q : Int) - 1) = (q : Int) - 1 := IntWalk.i64_in _ (by omega); have D7 := hide (D6d.out.draw c7 g7); have B7 := hide (B6d.out.draw g7 hpb); have O7 := hide (own_grown O6d.out g7 hne.out); obtain ⟨a70, a71⟩ := B7.out.at_; obtain ⟨⟨q0, q1, hq0, hq1⟩, f0, f1⟩ := D7.out.res; have hr := D7.out.res.lt)
      all_goals (
        go_wp2
        refine bodyPost_ret (v := .tuple #[.agg #[.int .i64 n, .slice A xs.length c], .int .i64 ((q : Int) - 1)]) (by simp [results, Tryz.results49, go_sem, hq0, hq1]) rfl ?_
        obtain ⟨h1, h2⟩ := D7.out.own O7.out (.int .i64 n) (.slice A xs.length c)
        exact ⟨n, _, xs, _, Hf.out, by omega, by omega, rfl, h1, h2⟩)
end

/- Walks: SetsText in the program and in the reference; the laws' helpers szStringS, toStringS. -/
section
open Go.RowKit

def setsTxt (xs : List Int) : List UInt8 := Lib.join (xs.map setTxtOf) [44]
theorem txtTo_len6 (s : Nat) : (setTxt s).length ≤ 6 := by
  unfold setTxt
  split
  · simp
  · exact txtTo_len s 6
theorem setTxtOf_len (s : Int) : (setTxtOf s).length ≤ 6 := by
  unfold setTxtOf
  split
  · exact txtTo_len6 _
  · simp
theorem lens_txts : ∀ xs : List Int, Lib.lens (xs.map setTxtOf) ≤ 6 * xs.length
  | [] => by simp [Lib.lens]
  | x :: xs => by
    have h1 := lens_txts xs
    have h2 := setTxtOf_len x
    have e : Lib.lens ((x :: xs).map setTxtOf) = (setTxtOf x).length + Lib.lens (xs.map setTxtOf) := by simp [Lib.lens]
    rw [e, List.length_cons]
    omega
theorem txts_bound (xs : List Int) (hl : xs.length ≤ 1073741824) : Lib.lens (xs.map setTxtOf) + (xs.map setTxtOf).length * ([44] : List UInt8).length ≤ 70368744177664 := by
  have h := lens_txts xs
  rw [List.length_map]
  show _ + xs.length * 1 ≤ _
  omega
def txts (xs : List Int) (k : Nat) : List (List UInt8) := (xs.take k).map setTxtOf
theorem txts_snoc {xs : List Int} {k : Nat} {x : Int} (h : xs[k]? = some x) : txts xs (k + 1) = txts xs k ++ [setTxtOf x] := by
  unfold txts
  rw [take_snoc _ _ _ h, List.map_append]
  rfl
theorem txts_len (xs : List Int) (k : Nat) : (txts xs k).length ≤ xs.length := by
  unfold txts
  rw [List.length_map, List.length_take]
  omega
theorem txts_all {xs : List Int} {k : Nat} (h : xs.length ≤ k) : txts xs k = xs.map setTxtOf := by
  unfold txts
  rw [take_all _ _ h]

theorem setsTextS (v : Value) (xs : List Int) (w : World) (h : IntsAt w w.heap.size v xs) (hl : xs.length ≤ 1073741824) :
    Calls Tryz.prog 66 #[v] w fun e w' => RetS w (setsTxt xs) e w' := by
  obtain ⟨A, c, rfl, hc, he⟩ := form_ h
  have He := hide he
  clear h he hc
  go_enter Tryz.func66, Tryz.ntmps66
  go_wp2
  have Ho0 : Hid (OwnV 9 (w.alloc (.cells #[] 9)) w.heap.size (.slice (some ⟨w.heap.size, 0, none⟩) 0 0) (strsV (txts xs 0))) := own_empty _ _
  have Hb0 := hide (below_alloc w (.cells #[] 9))
  go_loopw [3, 4] (fun u5 i wr => ∃ k : Nat, k ≤ xs.length ∧ i = .int .i64 k ∧ Hid (OwnV 9 wr w.heap.size u5 (strsV (txts xs k))) ∧ Hid (Below w.heap.size w wr)) (fun _ i _ => xs.length - (intOf i).toNat)
  case atStart => exact ⟨0, by omega, rfl, Ho0, Hb0⟩
  case round =>
    obtain ⟨k, hk, rfl, hown, hb⟩ := hrel
    by_cases hlt : k < xs.length
    · obtain ⟨b, o, x, rfl, hbb, hx, hcell0⟩ := He.out k hlt
      have hcell := (hb.out.cell (p := ⟨b, o + k, none⟩) hbb).trans hcell0
      have Hx := hide (txts_snoc hx)
      have hln := txts_len xs k
      clear hcell0 hx
      go_wp2_with fail
      refine (setTextS x wr).mono ?_
      rintro e w4 ⟨rfl, b4⟩
      have Hb4 := hide (hb.out.trans (b4.mono hb.out.size))
      have ho4 := own_below hown.out b4
      have hlen : (strsV (txts xs k)).length < 17179869184 := by rw [strsV_length]; omega
      have hsz := Hb4.out.size
      clear b4 hcell
      go_wp2_with (at_builtin; refine wpList_appV ho4 (.string ⟨(setTxtOf x).toArray⟩) (.string ⟨#[]⟩) 16 Tryz.underlying50 infoS rfl (by decide) rfl rfl _ _ rfl rfl rfl hlen hsz ?_; intro v' w5 hown5 hb5 _)
      have Hown5 : Hid (OwnV 9 w5 w.heap.size v' (strsV (txts xs (k + 1)))) := by show OwnV _ _ _ _ _; rw [Hx.out, strsV_snoc]; exact hown5
      have Hb5 : Hid (Below w.heap.size w w5) := Hb4.out.trans hb5
      go_wp2
      go_roundw
      case rel => exact ⟨k + 1, by omega, by go_num, Hown5, Hb5⟩
      case measure => simp [intOf]; omega
    · have hk2 : xs.length ≤ k := by omega
      have ho := hown.out
      rw [txts_all hk2] at ho
      have Ho := hide ho
      have Hbd := hide (txts_bound xs hl)
      clear ho hown
      go_wp2_with fail
      refine (joinS _ (xs.map setTxtOf) [44] wr (own_reads Ho.out) (by rw [List.length_map]; omega) Hbd.out).mono ?_
      rintro e w6 ⟨rfl, b6⟩
      have B6 := hide (hb.out.trans (b6.mono hb.out.size))
      go_wp2
      go_ret
      exact ⟨rfl, B6.out⟩

theorem setsTextI (v : Value) (xs : List Int) (w : World) (h : IntsAt w w.heap.size v xs) (hl : xs.length ≤ 1073741824) :
    Calls Tryz.prog 64 #[v] w fun e w' => RetS w (setsTxt xs) e w' := by
  obtain ⟨A, c, rfl, hc, he⟩ := form_ h
  have He := hide he
  clear h he hc
  obtain ⟨i0, hi, hz0, hz1, hz2⟩ := info_parts infoS
  have hby : i0.bytes * xs.length ≤ 281474976710656 := by rw [hz2]; omega
  have hml : xs.length ≤ maxLen := by unfold maxLen; omega
  go_enter Tryz.func64, Tryz.ntmps64
  go_wp2_with (at_make; refine wpList_make_own _ rfl _ _ 50 rfl w.heap.size 9 i0 (.string ⟨#[]⟩) 1 Tryz.underlying50 hi hz0 hz1 .i64 .i64 _ xs.length rfl rfl rfl hby hml (Nat.le_refl _) ?_; intro w1 hown1 hg1)
  have Ho0 : Hid (OwnV 9 w1 w.heap.size (.slice (some ⟨w.heap.size, 0, none⟩) 0 xs.length) (strsV (txts xs 0))) := hown1
  have Hb0 : Hid (Below w.heap.size w w1) := grown_below hg1 (Nat.le_refl _) (fun k hk => by cases hk)
  clear hown1 hg1 hi hz0 hz1 hz2 hby hml
  go_loopw [3, 5, 11] (fun u5 _ i wr => ∃ k : Nat, k ≤ xs.length ∧ i = .int .i64 k ∧ Hid (OwnV 9 wr w.heap.size u5 (strsV (txts xs k))) ∧ Hid (Below w.heap.size w wr)) (fun _ _ i _ => xs.length - (intOf i).toNat)
  case atStart => exact ⟨0, by omega, rfl, Ho0, Hb0⟩
  case round =>
    obtain ⟨k, hk, rfl, hown, hb⟩ := hrel
    by_cases hlt : k < xs.length
    · obtain ⟨b, o, x, rfl, hbb, hx, hcell0⟩ := He.out k hlt
      have hcell := (hb.out.cell (p := ⟨b, o + k, none⟩) hbb).trans hcell0
      have Hx := hide (txts_snoc hx)
      have hln := txts_len xs k
      clear hcell0 hx
      go_wp2_with fail
      refine (setTextI x wr).mono ?_
      rintro e w4 ⟨rfl, b4⟩
      have Hb4 := hide (hb.out.trans (b4.mono hb.out.size))
      have ho4 := own_below hown.out b4
      have hlen : (strsV (txts xs k)).length < 17179869184 := by rw [strsV_length]; omega
      have hsz := Hb4.out.size
      clear b4 hcell
      go_wp2_with (at_builtin; refine wpList_appV ho4 (.string ⟨(setTxtOf x).toArray⟩) (.string ⟨#[]⟩) 16 Tryz.underlying50 infoS rfl (by decide) rfl rfl _ _ rfl rfl rfl hlen hsz ?_; intro v' w5 hown5 hb5 _)
      have Hown5 : Hid (OwnV 9 w5 w.heap.size v' (strsV (txts xs (k + 1)))) := by show OwnV _ _ _ _ _; rw [Hx.out, strsV_snoc]; exact hown5
      have Hb5 : Hid (Below w.heap.size w w5) := Hb4.out.trans hb5
      go_wp2
      go_roundw
      case rel => exact ⟨k + 1, by omega, by go_num, Hown5, Hb5⟩
      case measure => simp [intOf]; omega
    · have hk2 : xs.length ≤ k := by omega
      have ho := hown.out
      rw [txts_all hk2] at ho
      have hbd := txts_bound xs hl
      have Hc : Hid (∀ u, OwnV 9 wr w.heap.size u (strsV (xs.map setTxtOf)) → Calls Tryz.prog 80 #[u, .string ⟨([44] : List UInt8).toArray⟩] wr fun e w' => RetS wr (setsTxt xs) e w') := fun u hu => stringsJoinV u (xs.map setTxtOf) [44] wr (own_reads hu) (by rw [List.length_map]; omega) hbd
      have Ho := hide ho
      clear ho hown hbd
      go_wp2_with fail
      refine (Hc.out _ Ho.out).mono ?_
      rintro e w6 ⟨rfl, b6⟩
      have B6 := hide (hb.out.trans (b6.mono hb.out.size))
      go_wp2
      go_ret
      exact ⟨rfl, B6.out⟩

/-! ### the laws' helpers on lists of strings -/
def szOf (ls : List (List UInt8)) : Nat := ls.length + Lib.lens ls
theorem lens_split (ls : List (List UInt8)) (k : Nat) : Lib.lens (ls.take k) ≤ Lib.lens ls := Lib.lens_take_le ls k
theorem copiedS_set (xs : List (List UInt8)) (i : Nat) (x : List UInt8) (h : xs[i]? = some x) : (xs.take i ++ List.replicate (xs.length - i) []).set i x = xs.take (i + 1) ++ List.replicate (xs.length - (i + 1)) [] := by
  have hl := (List.getElem?_eq_some_iff.1 h).1
  have ht : (xs.take i).length = i := by rw [List.length_take]; omega
  rw [List.set_append_right _ _ (by omega), ht, Nat.sub_self, show xs.length - i = (xs.length - (i + 1)) + 1 by omega, List.replicate_succ, List.set_cons_zero, take_snoc _ _ _ h]
  simp
theorem copiedS_len (xs : List (List UInt8)) (i : Nat) (h : i ≤ xs.length) : (xs.take i ++ List.replicate (xs.length - i) ([] : List UInt8)).length = xs.length := by
  rw [List.length_append, List.length_take, List.length_replicate]
  omega
end

/- Walks: OrderSets, MaximalSets, MinimalSets, SubsetsOf in the reference. -/
section
open Go.RowKit

theorem subTo_all (m : Nat) : allSets (zs ((List.range 64).filter fun t => sub t m)) = true := by
  apply List.all_eq_true.2
  intro x hx
  simp only [zs, List.mem_map, List.mem_filter, List.mem_range] at hx
  obtain ⟨n, ⟨hn, _⟩, rfl⟩ := hx
  exact decide_eq_true ⟨by omega, by omega⟩
theorem subTo_in (m s : Nat) (hs : s < 64) : inList (zs ((List.range 64).filter fun t => sub t m)) s = sub s m := by
  unfold inList
  rw [Bool.eq_iff_iff]
  simp only [List.contains_eq_mem, decide_eq_true_eq, zs, List.mem_map, List.mem_filter, List.mem_range]
  constructor
  · rintro ⟨n, ⟨_, h⟩, e⟩
    have : n = s := by omega
    subst this
    exact h
  · intro h
    exact ⟨s, ⟨hs, h⟩, rfl⟩
def subTo (m k : Nat) : List Nat := (List.range k).filter fun t => sub t m
theorem subTo_yes {m k : Nat} (h : sub k m = true) : subTo m (k + 1) = subTo m k ++ [k] := by simp [subTo, List.range_succ, h]
theorem subTo_no {m k : Nat} (h : sub k m = false) : subTo m (k + 1) = subTo m k := by simp [subTo, List.range_succ, h]
theorem subTo_len (m k : Nat) : (subTo m k).length ≤ k := by
  have := List.length_filter_le (fun t => sub t m) (List.range k)
  simpa [subTo] using this
theorem listOf_nil : listOf (inList []) = [] := by decide +kernel
end

/- Plain laws for FnSets. -/
section
open Go.RowKit

theorem nowB_ {W w' : World} {v : Value} {L : List UInt8} (h : BytesAt W W.heap.size v L) (c : Below W.heap.size W w') : BytesAt w' w'.heap.size v L := ReadsV.on h c (Nat.le_refl _) (Nat.le_refl _)
theorem parse_txt_all : ((List.range 64).all fun s => parseSet (setTxt s) == (s, true)) = true := by decide +kernel
theorem parse_txt {s : Nat} (h : s < 64) : parseSet (setTxtOf (s : Int)) = (s, true) := by
  rw [setTxtOf_yes h]
  have := List.all_eq_true.1 parse_txt_all s (List.mem_range.2 h)
  simpa using this
theorem parse_txt_no {s : Int} (h : ¬ (0 ≤ s ∧ s < 64)) : parseSet (setTxtOf s) = (0, false) := by
  rw [setTxtOf_no h]
  rfl
theorem subs_all : ((List.range 64).all fun s => (listOf (fun t => sub t s)).length == 2 ^ pc s) = true := by decide +kernel
theorem subs_len {s : Nat} (h : s < 64) : (subsetsOf (s : Int)).length = 2 ^ pc s := by
  rw [subsetsOf_yes h]
  have := List.all_eq_true.1 subs_all s (List.mem_range.2 h)
  simpa using this
theorem zsl (l : List Nat) : (zs l).length = l.length := List.length_map _
/-- No set of the list lies over a greatest one. -/
theorem max_over {xs : List Int} {m : Nat} {x : Int} (h : m ∈ maxSets xs) (hx : x ∈ xs) : m < 64 ∧ ∃ X : Nat, x = (X : Int) ∧ X < 64 ∧ (X = m ∨ sub m X = false) := by
  unfold maxSets at h
  split at h
  · rename_i ha
    obtain ⟨h0, h1⟩ := allSets_at ha hx
    obtain ⟨X, rfl⟩ := Int.eq_ofNat_of_zero_le h0
    unfold maxOf maxL at h
    obtain ⟨h2, h3⟩ := List.mem_filter.1 h
    have hm := (mem_listOf.1 h2).1
    refine ⟨hm, X, rfl, by omega, ?_⟩
    cases hs : sub m X
    · exact .inr rfl
    · exact .inl (keepMax_iff.1 h3 X (by omega) (List.contains_iff_mem.2 hx) hs)
  · cases h
theorem over_bits {m X : Nat} (hm : m < 64) (hX : X < 64) (h : sub m X = false) : (bits BinOp.and IntKind.i64 (m : Int) (X : Int) == (m : Int)) = false := by
  rw [i64_and m X (by omega) (by omega), beq_eq_false_iff_ne]
  intro e
  have e2 : m &&& X = m := Int.ofNat.inj e
  have : sub m X = true := sub_iff.2 e2
  rw [this] at h
  cases h
theorem ptsOf_len6 (s : Int) : (ptsOf s).length ≤ 1048576 := by
  by_cases h : 0 ≤ s ∧ s < 64
  · obtain ⟨m, rfl⟩ := Int.eq_ofNat_of_zero_le h.1
    rw [ptsOf_yes (by omega)]
    have := pts_len m 6
    omega
  · rw [ptsOf_no h]
    simp
theorem asI {P : Program} {f : FuncId} {args : Array Value} {w : World} {T : TypeId} {xs y : List Int} (h : Calls P f args w fun e w' => RetI T w xs e w') (e : y = xs) : Calls P f args w fun e w' => RetI T w y e w' := by
  subst e
  exact h
end

/- Walks: the draws of complexes: DrawInducedOf, l5Two, DrawMeetOf; sameComplex of the laws. -/
section
open Go.RowKit

theorem sameComplex_same (n : Int) (v1 v2 : Value) (xs : List Int) (w : World) (h1 : IntsAt w w.heap.size v1 xs) (h2 : IntsAt w w.heap.size v2 xs) (hl : xs.length ≤ 1073741824) :
    Calls Tryz.prog 19 #[.agg #[.int .i64 n, v1], .agg #[.int .i64 n, v2]] w fun e w' => RetB w true e w' := by
  obtain ⟨A1, c1, rfl⟩ := reads_shape h1
  obtain ⟨A2, c2, rfl⟩ := reads_shape h2
  obtain ⟨w1, hW1, at1, b1, z1⟩ := boxC w (.int .i64 n) (.slice A1 xs.length c1) 26
  obtain ⟨w2, hW2, at2, b2, z2⟩ := boxC w1 (.int .i64 n) (.slice A2 xs.length c2) 26
  have b02 := nxt b1 b2
  have R1 := hide (now_ h1 b02)
  have R2 := hide (now_ h2 b02)
  have B2 := hide b02
  obtain ⟨e1_0, e1_1⟩ := at1.to b2
  obtain ⟨e2_0, e2_1⟩ := at2
  clear h1 h2 at1 b1 b2 b02 z1 z2
  have hne : (n == n) = true := by simp
  go_enter Tryz.func19, Tryz.ntmps19
  go_wp2_with fail
  clear hW1 hW2
  refine (sameInts_same _ _ xs w2 R1.out R2.out hl).mono ?_
  rintro e w3 ⟨rfl, b3⟩
  have B3 := hide (nxt B2.out b3)
  go_wp2
  go_ret
  exact ⟨rfl, B3.out⟩

theorem shl1 {k : Nat} (h : k ≤ 6) : ∃ K : Nat, K ≤ 65 ∧ 1 ≤ K ∧ IntKind.i64.wrap (IntKind.i64.wrap (2 ^ min (IntKind.u64.wrap (k : Int)).toNat 64) + 1) = (K : Int) := by
  refine ⟨2 ^ k + 1, ?_⟩
  have : k = 0 ∨ k = 1 ∨ k = 2 ∨ k = 3 ∨ k = 4 ∨ k = 5 ∨ k = 6 := by omega
  rcases this with rfl | rfl | rfl | rfl | rfl | rfl | rfl <;> decide +kernel

/-- A draw under way with two results' blocks, r and r2. -/
structure Dw (w : World) (r r2 p : Nat) (v : Value) (L : List UInt8) (a : World) : Prop where
  q : Dq w r p v L a
  res2 : Res r2 a
  rp2 : r2 < p
theorem Dw.draw {w a b : World} {r r2 p : Nat} {v : Value} {L : List UInt8} (h : Dw w r r2 p v L a) (c : CurAt b p v L) (g : a.grownBy b (some p)) : Dw w r r2 p v L b :=
  ⟨h.q.draw c g, h.res2.grown64 g (fun e => by have := Option.some.inj e; have := h.rp2; omega), h.rp2⟩
theorem Dw.next {w a b : World} {r r2 p : Nat} {v : Value} {L : List UInt8} (h : Dw w r r2 p v L a) (k : Below a.heap.size a b) : Dw w r r2 p v L b := ⟨h.q.next k, h.res2.to k, h.rp2⟩
/-- The call returns two complexes of its own. -/
def RetDXX (w : World) (e : Ending) (w' : World) : Prop :=
  ∃ (n : Int) (u : Value) (xs : List Int) (m : Int) (z : Value) (ys : List Int), Few 1000 n xs ∧ Few 1000 m ys ∧ e = .returned (.tuple #[.agg #[.int .i64 n, u], .agg #[.int .i64 m, z]]) ∧ OwnV 3 w' w.heap.size u (ints xs) ∧ OwnV 3 w' w.heap.size z (ints ys) ∧ Below w.heap.size w w'
theorem own_set4 {a : World} {r r2 : Nat} {u : Value} {xs : List Int} (h : OwnV 3 a (r2 + 1) u (ints xs)) (hr : r < r2) (x0 x1 y0 y1 : Value) :
    OwnV 3 ((((a.setCell ⟨r, 0, none⟩ x0).setCell ⟨r, 1, none⟩ x1).setCell ⟨r2, 0, none⟩ y0).setCell ⟨r2, 1, none⟩ y1) r u (ints xs) :=
  own_mono (own_setBelow (own_setBelow (own_setBelow (own_setBelow h (by omega) _ _) (by omega) _ _) (by omega) _ _) (by omega) _ _) (by omega)
theorem below_set4 {w a : World} {r r2 : Nat} (h : Below r w a) (hr : r < r2) (x0 x1 y0 y1 : Value) :
    Below r w ((((a.setCell ⟨r, 0, none⟩ x0).setCell ⟨r, 1, none⟩ x1).setCell ⟨r2, 0, none⟩ y0).setCell ⟨r2, 1, none⟩ y1) := below_store (below_store h (Nat.le_refl _) _ _) (by omega) _ _
theorem few_9 {n : Int} {xs : List Int} (h : Few 900 n xs) : Few 1000 n xs := few_more h
end

section
open Go.RowKit
/-- Two boxes, made one behind the other. -/
theorem boxTwo (w : World) (x y x' y' : Value) (T : TypeId) : ∃ W, (w.alloc (.cells #[x, y] T)).alloc (.cells #[x', y'] T) = W ∧ AtC W w.heap.size x y ∧ AtC W (w.heap.size + 1) x' y' ∧ Below w.heap.size w W ∧ W.heap.size = w.heap.size + 2 := by
  obtain ⟨w1, rfl, at1, b1, z1⟩ := boxC w x y T
  obtain ⟨w2, rfl, at2, b2, z2⟩ := boxC (w.alloc (.cells #[x, y] T)) x' y' T
  rw [z1] at at2
  exact ⟨_, rfl, at1.to b2, at2, nxt b1 b2, by omega⟩
end

/- Plain laws: the numeral of the library and that of the reference are the same. No program is named here. -/
section
theorem decDigits_fmtN : ∀ (f u : Nat), u ≤ f → Lib.decDigits u = fmtN u
  | 0, u, h => by
    obtain rfl : u = 0 := by omega
    rw [Lib.decDigits]
    rfl
  | f + 1, u, h => by
    by_cases h0 : u = 0
    · subst h0
      rw [Lib.decDigits]
      rfl
    · have e : fmtN u = dec u := by unfold fmtN; rw [if_neg h0]
      rw [e, dec_pos (by omega), Lib.decDigits]
      by_cases h1 : u < 10
      · rw [dif_pos h1, show u / 10 = 0 by omega, dec_zero, List.nil_append, show u % 10 = u by omega]
        rfl
      · rw [dif_neg h1, decDigits_fmtN f (u / 10) (by omega)]
        unfold fmtN
        rw [if_neg (by omega)]
        rfl
theorem itoa_fmtZ (n : Int) : Lib.itoa n = fmtZ n := by
  unfold Lib.itoa fmtZ
  by_cases h0 : n = 0
  · subst h0
    rw [if_neg (by decide), if_pos rfl]
    rw [decDigits_fmtN _ _ (Nat.le_refl _)]
    rfl
  · rw [if_neg h0]
    by_cases h1 : n < 0
    · rw [if_pos h1, if_pos h1, decDigits_fmtN _ _ (Nat.le_refl _)]
      unfold fmtN
      rw [if_neg (by omega)]
    · rw [if_neg h1, if_neg h1, decDigits_fmtN _ _ (Nat.le_refl _)]
      unfold fmtN
      rw [if_neg (by omega), show n.toNat = n.natAbs by omega]
theorem fmtZ_len (n : Int) (h0 : -9223372036854775808 ≤ n) (h1 : n ≤ 9223372036854775807) : (fmtZ n).length ≤ 21 := by
  rw [← itoa_fmtZ]
  exact Lib.itoa_length_le n h0 h1
end
end Go.Proofs.YtmkacjpjcfffmabGreatDoor
