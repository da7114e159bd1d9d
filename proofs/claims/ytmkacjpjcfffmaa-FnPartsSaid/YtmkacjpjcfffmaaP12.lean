/- Texts of one kind, laid together (4 of them). -/
import Derived.Test.YtmkacjpjcfffmaaP3
import Derived.Test.YtmkacjpjcfffmaaP7
import Derived.Test.YtmkacjpjcfffmaaP8
import Derived.Test.YtmkacjpjcfffmaaP9
import Derived.Test.YtmkacjpjcfffmaaP10
import Derived.Test.YtmkacjpjcfffmaaP11
namespace Go.Proofs.Ytmkacjpjcfffmaa
/- Walks: the draws of complexes: DrawFaceCounts, DrawFacesOfSize, DrawSkeletonOf, l3Case, DrawDegreeOf, DrawStarOf. -/
section
open Go.RowKit

/-- A draw out of the bytes under way: the result's block r, the cursor p. -/
structure Dq (w : World) (r p : Nat) (v : Value) (L : List UInt8) (a : World) : Prop where
  cur : CurAt a p v L
  bel : Below w.heap.size w a
  res : Res r a
  far : w.heap.size ≤ r
  rp : r < p
theorem Dq.start {w w1 a : World} {r p : Nat} {v : Value} {L : List UInt8} (hr : Res r w1) (h1 : Below w.heap.size w w1) (hB : w.heap.size ≤ r) (hp : w1.heap.size ≤ p) (c : CurAt a p v L) (b : Below w1.heap.size w1 a) : Dq w r p v L a :=
  ⟨c, nxt h1 b, hr.to b, hB, by have := hr.lt; omega⟩
theorem Dq.draw {w a b : World} {r p : Nat} {v : Value} {L : List UInt8} (h : Dq w r p v L a) (c : CurAt b p v L) (g : a.grownBy b (some p)) : Dq w r p v L b :=
  ⟨c, cur_below h.bel h.bel.size g (by have := h.far; have := h.rp; omega), h.res.grown64 g (fun e => by have := Option.some.inj e; have := h.rp; omega), h.far, h.rp⟩
theorem Dq.next {w a b : World} {r p : Nat} {v : Value} {L : List UInt8} (h : Dq w r p v L a) (k : Below a.heap.size a b) : Dq w r p v L b :=
  ⟨h.cur.to k, nxt h.bel k, h.res.to k, h.far, h.rp⟩
theorem Bx.draw {B b p : Nat} {x y : Value} {a c : World} (h : Bx B b x y a) (g : a.grownBy c (some p)) (hp : p < b) : Bx B b x y c := h.other g (fun e => by have := Option.some.inj e; omega)
theorem nowB9 {W w' : World} {v : Value} {L : List UInt8} (h : BytesAt W W.heap.size v L) (c : Below W.heap.size W w') : BytesAt w' w'.heap.size v L := ReadsV.on h c (Nat.le_refl _) (Nat.le_refl _)
/-- The call returns some complex of its own. -/
def RetDX (w : World) (e : Ending) (w' : World) : Prop :=
  ∃ (n : Int) (u : Value) (xs : List Int), Few 1000 n xs ∧ e = .returned (.agg #[.int .i64 n, u]) ∧ OwnV 3 w' w.heap.size u (ints xs) ∧ Below w.heap.size w w'
/-- The call returns some complex of its own and an int. -/
def RetDXI (w : World) (e : Ending) (w' : World) : Prop :=
  ∃ (n : Int) (u : Value) (xs : List Int) (t : Int), Few 1000 n xs ∧ -100 ≤ t ∧ t ≤ 100 ∧ e = .returned (.tuple #[.agg #[.int .i64 n, u], .int .i64 t]) ∧ OwnV 3 w' w.heap.size u (ints xs) ∧ Below w.heap.size w w'
/-- What is stored into the result's block. -/
theorem Dq.own {w a : World} {r p : Nat} {v u : Value} {L : List UInt8} {xs : List Int} (h : Dq w r p v L a) (ho : OwnV 3 a (r + 1) u (ints xs)) (x y : Value) :
    OwnV 3 ((a.setCell ⟨r, 0, none⟩ x).setCell ⟨r, 1, none⟩ y) w.heap.size u (ints xs) ∧ Below w.heap.size w ((a.setCell ⟨r, 0, none⟩ x).setCell ⟨r, 1, none⟩ y) :=
  ⟨own_mono (own_setBelow (own_setBelow ho (Nat.lt_succ_self r) _ _) (Nat.lt_succ_self r) _ _) (by have := h.far; omega), below_store h.bel h.far x y⟩

theorem drawFaceCountsS (v : Value) (L : List UInt8) (w : World) (h : BytesAt w w.heap.size v L) (hL : L.length ≤ 1073741824) :
    Calls Try.prog 34 #[v] w fun e w' => RetDX w e w' := by
  obtain ⟨w1, hW1, _, rs1, b1, z1⟩ := boxRes w 42
  have H1 := hide (nowB9 h b1)
  have Rs1 := hide rs1
  have B1 := hide b1
  have Hz1 := hide z1
  clear h rs1 b1 z1
  go_enter Try.func34, Try.ntmps34
  go_wp2_with fail
  clear hW1
  refine (l1NewS v L w1 H1.out hL).mono ?_
  rintro e w2 ⟨p, rfl, hp, c2, b2⟩
  have D2 := hide (Dq.start Rs1.out B1.out (Nat.le_refl _) hp c2 b2)
  have hz2 : w.heap.size + 1 ≤ w2.heap.size := by have := Hz1.out; have := b2.size; omega
  clear c2 b2
  go_wp2_with fail
  refine (l3BentS p v L w2 D2.out.cur hL).mono ?_
  rintro e w3 ⟨n, u, xs, hf, rfl, o3, c3, g3⟩
  have D3 := hide (D2.out.draw c3 g3)
  have O3 := hide (own_mono o3 hz2)
  have Hf := hide hf
  obtain ⟨A, c, rfl⟩ := own_shape o3
  obtain ⟨⟨q0, q1, hq0, hq1⟩, f0, f1⟩ := D3.out.res
  have hr := D3.out.res.lt
  clear hf o3 c3 g3 D2
  go_wp2
  refine bodyPost_ret (v := .agg #[.int .i64 n, .slice A xs.length c]) (by simp [results, Try.results34, go_sem, hq0, hq1]) rfl ?_
  obtain ⟨h1, h2⟩ := D3.out.own O3.out (.int .i64 n) (.slice A xs.length c)
  exact ⟨n, _, xs, Hf.out, rfl, h1, h2⟩


theorem drawFacesOfSizeS (v : Value) (L : List UInt8) (w : World) (h : BytesAt w w.heap.size v L) (hL : L.length ≤ 1073741824) :
    Calls Try.prog 36 #[v] w fun e w' => RetDXI w e w' := by
  obtain ⟨w1, hW1, _, rs1, b1, z1⟩ := boxRes w 42
  have H1 := hide (nowB9 h b1)
  have Rs1 := hide rs1
  have B1 := hide b1
  have Hz1 := hide z1
  clear h rs1 b1 z1
  go_enter Try.func36, Try.ntmps36
  go_wp2_with fail
  clear hW1
  refine (l1NewS v L w1 H1.out hL).mono ?_
  rintro e w2 ⟨p, rfl, hp, c2, b2⟩
  have D2 := hide (Dq.start Rs1.out B1.out (Nat.le_refl _) hp c2 b2)
  have hz2 : w.heap.size + 1 ≤ w2.heap.size := by have := Hz1.out; have := b2.size; omega
  clear c2 b2
  go_wp2_with fail
  refine (l3BentS p v L w2 D2.out.cur hL).mono ?_
  rintro e w3 ⟨n, u, xs, hf, rfl, o3, c3, g3⟩
  have D3 := hide (D2.out.draw c3 g3)
  have O3 := hide (own_mono o3 hz2)
  have Hf := hide hf
  obtain ⟨A, c, rfl⟩ := own_shape o3
  have hne : Hid (∀ j, Value.ownBlock (.slice A xs.length c) = some j → (some p : Option Nat) ≠ some j) := fun j hj e => by
    have h1 := (own_block o3 j hj).1
    have h2 := Option.some.inj e
    have h3 := D2.out.cur.lt
    omega
  clear hf o3 c3 g3 D2
  obtain ⟨w4, hW4⟩ : ∃ X, w3.alloc (.cells #[.int .i64 n, .slice A xs.length c] 42) = X := ⟨_, rfl⟩
  have hb4 := below_alloc w3 (.cells #[.int .i64 n, .slice A xs.length c] 42)
  have B4 := hide (Bx.new (B := w.heap.size + 1) w3 (.int .i64 n) (.slice A xs.length c) 42 (by have := D3.out.res.lt; omega))
  rw [hW4] at hb4 B4
  have D4 := hide (D3.out.next hb4)
  have O4 := hide (own_below O3.out hb4)
  have hpb : p < w3.heap.size := D3.out.cur.lt
  clear hb4 O3 D3
  have D4d : Hid (Dq w w.heap.size p v L w4.drew) := D4.out.next (Below.refl _ _).drew
  have O4d : Hid (OwnV 3 w4.drew (w.heap.size + 1) (.slice A xs.length c) (ints xs)) := own_below O4.out (Below.refl _ _).drew
  have B4d : Hid (Bx (w.heap.size + 1) w3.heap.size (.int .i64 n) (.slice A xs.length c) w4.drew) := B4.out.next (Below.refl _ _).drew
  obtain ⟨a40, a41⟩ := B4d.out.at_
  have C4d := D4d.out.cur
  go_wp2_with fail
  go_region_law (go_simp; go_at_call 115; refine (l1BelowS p v L _ _ C4d hL (by omega)).mono ?_; rintro e w5 ⟨q, hq, _, rfl, c5, g5⟩; have hqK := hq (by omega); have hqw : IntKind.i64.wrap ((q : Int) - 1) = (q : Int) - 1 := IntWalk.i64_in _ (by omega); have D5 := hide (D4d.out.draw c5 g5); have B5 := hide (B4d.out.draw g5 hpb); have O5 := hide (own_grown O4d.out g5 hne.out); obtain ⟨a50, a51⟩ := B5.out.at_; obtain ⟨⟨q0, q1, hq0, hq1⟩, f0, f1⟩ := D5.out.res; have hr := D5.out.res.lt)
  all_goals (
    go_wp2
    refine bodyPost_ret (v := .tuple #[.agg #[.int .i64 n, .slice A xs.length c], .int .i64 ((q : Int) - 1)]) (by simp [results, Try.results36, go_sem, hq0, hq1]) rfl ?_
    obtain ⟨h1, h2⟩ := D5.out.own O5.out (.int .i64 n) (.slice A xs.length c)
    exact ⟨n, _, xs, _, Hf.out, by omega, by omega, rfl, h1, h2⟩)

theorem drawSkeletonOfS (v : Value) (L : List UInt8) (w : World) (h : BytesAt w w.heap.size v L) (hL : L.length ≤ 1073741824) :
    Calls Try.prog 66 #[v] w fun e w' => RetDXI w e w' := by
  obtain ⟨w1, hW1, _, rs1, b1, z1⟩ := boxRes w 42
  have H1 := hide (nowB9 h b1)
  have Rs1 := hide rs1
  have B1 := hide b1
  have Hz1 := hide z1
  clear h rs1 b1 z1
  go_enter Try.func66, Try.ntmps66
  go_wp2_with fail
  clear hW1
  refine (l1NewS v L w1 H1.out hL).mono ?_
  rintro e w2 ⟨p, rfl, hp, c2, b2⟩
  have D2 := hide (Dq.start Rs1.out B1.out (Nat.le_refl _) hp c2 b2)
  have hz2 : w.heap.size + 1 ≤ w2.heap.size := by have := Hz1.out; have := b2.size; omega
  clear c2 b2
  go_wp2_with fail
  refine (l3BentS p v L w2 D2.out.cur hL).mono ?_
  rintro e w3 ⟨n, u, xs, hf, rfl, o3, c3, g3⟩
  have D3 := hide (D2.out.draw c3 g3)
  have O3 := hide (own_mono o3 hz2)
  have Hf := hide hf
  obtain ⟨A, c, rfl⟩ := own_shape o3
  have hne : Hid (∀ j, Value.ownBlock (.slice A xs.length c) = some j → (some p : Option Nat) ≠ some j) := fun j hj e => by
    have h1 := (own_block o3 j hj).1
    have h2 := Option.some.inj e
    have h3 := D2.out.cur.lt
    omega
  clear hf o3 c3 g3 D2
  obtain ⟨w4, hW4⟩ : ∃ X, w3.alloc (.cells #[.int .i64 n, .slice A xs.length c] 42) = X := ⟨_, rfl⟩
  have hb4 := below_alloc w3 (.cells #[.int .i64 n, .slice A xs.length c] 42)
  have B4 := hide (Bx.new (B := w.heap.size + 1) w3 (.int .i64 n) (.slice A xs.length c) 42 (by have := D3.out.res.lt; omega))
  rw [hW4] at hb4 B4
  have D4 := hide (D3.out.next hb4)
  have O4 := hide (own_below O3.out hb4)
  have hpb : p < w3.heap.size := D3.out.cur.lt
  clear hb4 O3 D3
  have D4d : Hid (Dq w w.heap.size p v L w4.drew) := D4.out.next (Below.refl _ _).drew
  have O4d : Hid (OwnV 3 w4.drew (w.heap.size + 1) (.slice A xs.length c) (ints xs)) := own_below O4.out (Below.refl _ _).drew
  have B4d : Hid (Bx (w.heap.size + 1) w3.heap.size (.int .i64 n) (.slice A xs.length c) w4.drew) := B4.out.next (Below.refl _ _).drew
  obtain ⟨a40, a41⟩ := B4d.out.at_
  have C4d := D4d.out.cur
  go_wp2_with fail
  go_region_law (go_simp; go_at_call 115; refine (l1BelowS p v L _ _ C4d hL (by omega)).mono ?_; rintro e w5 ⟨q, hq, _, rfl, c5, g5⟩; have hqK := hq (by omega); have hqw : IntKind.i64.wrap ((q : Int) - 1) = (q : Int) - 1 := IntWalk.i64_in _ (by omega); have D5 := hide (D4d.out.draw c5 g5); have B5 := hide (B4d.out.draw g5 hpb); have O5 := hide (own_grown O4d.out g5 hne.out); obtain ⟨a50, a51⟩ := B5.out.at_; obtain ⟨⟨q0, q1, hq0, hq1⟩, f0, f1⟩ := D5.out.res; have hr := D5.out.res.lt)
  all_goals (
    go_wp2
    refine bodyPost_ret (v := .tuple #[.agg #[.int .i64 n, .slice A xs.length c], .int .i64 ((q : Int) - 1)]) (by simp [results, Try.results66, go_sem, hq0, hq1]) rfl ?_
    obtain ⟨h1, h2⟩ := D5.out.own O5.out (.int .i64 n) (.slice A xs.length c)
    exact ⟨n, _, xs, _, Hf.out, by omega, by omega, rfl, h1, h2⟩)

set_option maxHeartbeats 1600000 in
theorem l3CaseS (v : Value) (L : List UInt8) (w : World) (h : BytesAt w w.heap.size v L) (hL : L.length ≤ 1073741824) :
    Calls Try.prog 116 #[v] w fun e w' => RetDXI w e w' := by
  obtain ⟨w1, hW1, _, rs1, b1, z1⟩ := boxRes w 42
  have H1 := hide (nowB9 h b1)
  have Rs1 := hide rs1
  have B1 := hide b1
  have Hz1 := hide z1
  clear h rs1 b1 z1
  go_enter Try.func116, Try.ntmps116
  go_wp2_with fail
  clear hW1
  refine (l1NewS v L w1 H1.out hL).mono ?_
  rintro e w2 ⟨p, rfl, hp, c2, b2⟩
  have D2 := hide (Dq.start Rs1.out B1.out (Nat.le_refl _) hp c2 b2)
  have hz2 : w.heap.size + 1 ≤ w2.heap.size := by have := Hz1.out; have := b2.size; omega
  clear c2 b2
  go_wp2_with fail
  refine (l3BentS p v L w2 D2.out.cur hL).mono ?_
  rintro e w3 ⟨n, u, xs, hf, rfl, o3, c3, g3⟩
  have D3 := hide (D2.out.draw c3 g3)
  have O3 := hide (own_mono o3 hz2)
  have Hf := hide hf
  obtain ⟨A, c, rfl⟩ := own_shape o3
  have hne : Hid (∀ j, Value.ownBlock (.slice A xs.length c) = some j → (some p : Option Nat) ≠ some j) := fun j hj e => by
    have h1 := (own_block o3 j hj).1
    have h2 := Option.some.inj e
    have h3 := D2.out.cur.lt
    omega
  clear hf o3 c3 g3 D2
  obtain ⟨w4, hW4⟩ : ∃ X, w3.alloc (.cells #[.int .i64 n, .slice A xs.length c] 42) = X := ⟨_, rfl⟩
  have hb4 := below_alloc w3 (.cells #[.int .i64 n, .slice A xs.length c] 42)
  have B4 := hide (Bx.new (B := w.heap.size + 1) w3 (.int .i64 n) (.slice A xs.length c) 42 (by have := D3.out.res.lt; omega))
  rw [hW4] at hb4 B4
  have D4 := hide (D3.out.next hb4)
  have O4 := hide (own_below O3.out hb4)
  have hpb : p < w3.heap.size := D3.out.cur.lt
  clear hb4 O3 D3
  obtain ⟨a40, a41⟩ := B4.out.at_
  have hxl : xs.length ≤ 1000 := Hf.out.2.2.1
  go_wp2_with fail
  refine (facesOfS n _ xs w4 (own_reads O4.out) (by omega)).mono ?_
  rintro e w5 ⟨vf, rfl, of5, b5⟩
  have D5 := hide (D4.out.next b5)
  have B5 := hide (B4.out.next b5)
  have O5 := hide (own_below O4.out b5)
  have hfl := facesOf_len n xs
  have Hm := hide (facesOf_lt n xs)
  obtain ⟨Af, cf, rfl⟩ := own_shape of5
  have F5 := hide of5
  have Hpf : Hid (p < w4.heap.size) := D4.out.cur.lt
  generalize facesOf n xs = fs at *
  have hzl : (zs fs).length = fs.length := List.length_map _
  have hg2 : (fs.length : Int) ≤ 448 := by omega
  clear of5 b5 D4 B4 O4 a40 a41
  by_cases h0 : fs.length = 0
  · have hgt : ((fs.length : Int) > 0) = False := by rw [h0]; simp
    go_wp2_with fail
    have D5d : Hid (Dq w w.heap.size p v L w5.drew) := D5.out.next (Below.refl _ _).drew
    have O5d : Hid (OwnV 3 w5.drew (w.heap.size + 1) (.slice A xs.length c) (ints xs)) := own_below O5.out (Below.refl _ _).drew
    have B5d : Hid (Bx (w.heap.size + 1) w3.heap.size (.int .i64 n) (.slice A xs.length c) w5.drew) := B5.out.next (Below.refl _ _).drew
    obtain ⟨a50, a51⟩ := B5d.out.at_
    have C5d := D5d.out.cur
    go_region_law (go_simp; go_at_call 115; refine (l1BelowS p v L _ _ C5d hL (by omega)).mono ?_; rintro e w6 ⟨q, hq, _, rfl, c6, g6⟩; have hqK := hq (by omega); have hqw : IntKind.i64.wrap ((q : Int) - 1) = (q : Int) - 1 := IntWalk.i64_in _ (by omega); have D6 := hide (D5d.out.draw c6 g6); have B6 := hide (B5d.out.draw g6 hpb); have O6 := hide (own_grown O5d.out g6 hne.out); obtain ⟨a60, a61⟩ := B6.out.at_; obtain ⟨⟨q0, q1, hq0, hq1⟩, f0, f1⟩ := D6.out.res; have hr := D6.out.res.lt)
    all_goals (
      go_wp2
      refine bodyPost_ret (v := .tuple #[.agg #[.int .i64 n, .slice A xs.length c], .int .i64 ((q : Int) - 1)]) (by simp [results, Try.results116, go_sem, hq0, hq1]) rfl ?_
      obtain ⟨h1, h2⟩ := D6.out.own O6.out (.int .i64 n) (.slice A xs.length c)
      exact ⟨n, _, xs, _, Hf.out, by omega, by omega, rfl, h1, h2⟩)
  · have hpos : 0 < fs.length := by omega
    clear h0
    go_wp2_with fail
    refine (l1OnceS p v L _ w5 D5.out.cur hL (by omega)).mono ?_
    rintro e w6 ⟨b, rfl, c6, g6⟩
    have D6 := hide (D5.out.draw c6 g6)
    have B6 := hide (B5.out.draw g6 hpb)
    have O6 := hide (own_grown O5.out g6 hne.out)
    have F6 := hide (own_grown F5.out g6 (fun j hj e => by
      have h1 := (own_block F5.out j hj).1
      have h2 := Option.some.inj e
      have h3 := Hpf.out
      omega))
    clear c6 g6 D5 B5 O5 F5
    cases b
    · have F6d : Hid (OwnV 3 w6.drew w4.heap.size (.slice Af (zs fs).length cf) (ints (zs fs))) := own_below F6.out (Below.refl _ _).drew
      have hnf : Hid (∀ j, Value.ownBlock (.slice Af (zs fs).length cf) = some j → (some p : Option Nat) ≠ some j) := fun j hj e => by
        have h1 := (own_block F6.out j hj).1
        have h2 := Option.some.inj e
        have h3 := Hpf.out
        omega
      have D6d : Hid (Dq w w.heap.size p v L w6.drew) := D6.out.next (Below.refl _ _).drew
      have O6d : Hid (OwnV 3 w6.drew (w.heap.size + 1) (.slice A xs.length c) (ints xs)) := own_below O6.out (Below.refl _ _).drew
      have B6d : Hid (Bx (w.heap.size + 1) w3.heap.size (.int .i64 n) (.slice A xs.length c) w6.drew) := B6.out.next (Below.refl _ _).drew
      obtain ⟨a60, a61⟩ := B6d.out.at_
      have C6d := D6d.out.cur
      go_wp2_with fail
      go_region_law (go_simp; go_at_call 115; refine (l1BelowS p v L _ _ C6d hL (by omega)).mono ?_; rintro e w7 ⟨q, hq, _, rfl, c7, g7⟩; have hqK := hq (by omega); have F7 := own_grown F6d.out g7 hnf.out; obtain ⟨_, _, hvf, hef⟩ := zsElems (own_reads F7); rw [hzl] at hvf; cases hvf; obtain ⟨bf, of, s, hA, hs, hcell⟩ := hef q (by omega); have hs64 := Hm.out s (List.mem_of_getElem? hs); cases hA; have hbf : bf ≠ w.heap.size := (by have h1 := (own_block F7 bf rfl).1; have h2 := Hpf.out; have h3 := D6d.out.rp; omega); have D7 := hide (D6d.out.draw c7 g7); have B7 := hide (B6d.out.draw g7 hpb); have O7 := hide (own_grown O6d.out g7 hne.out); obtain ⟨a70, a71⟩ := B7.out.at_; obtain ⟨⟨q0, q1, hq0, hq1⟩, f0, f1⟩ := D7.out.res; have hr := D7.out.res.lt; clear hs hef F7 hq)
      all_goals (
        go_wp2
        refine bodyPost_ret (v := .tuple #[.agg #[.int .i64 n, .slice A xs.length c], .int .i64 (s : Int)]) (by simp [results, Try.results116, go_sem, hq0, hq1]) rfl ?_
        obtain ⟨h1, h2⟩ := D7.out.own O7.out (.int .i64 n) (.slice A xs.length c)
        exact ⟨n, _, xs, _, Hf.out, by omega, by omega, rfl, h1, h2⟩)
    · clear F6 hzl
      have D6d : Hid (Dq w w.heap.size p v L w6.drew) := D6.out.next (Below.refl _ _).drew
      have O6d : Hid (OwnV 3 w6.drew (w.heap.size + 1) (.slice A xs.length c) (ints xs)) := own_below O6.out (Below.refl _ _).drew
      have B6d : Hid (Bx (w.heap.size + 1) w3.heap.size (.int .i64 n) (.slice A xs.length c) w6.drew) := B6.out.next (Below.refl _ _).drew
      obtain ⟨a60, a61⟩ := B6d.out.at_
      have C6d := D6d.out.cur
      go_wp2_with fail
      go_region_law (go_simp; go_at_call 115; refine (l1BelowS p v L _ _ C6d hL (by omega)).mono ?_; rintro e w7 ⟨q, hq, _, rfl, c7, g7⟩; have hqK := hq (by omega); have hqw : IntKind.i64.wrap ((q : Int) - 1) = (q : Int) - 1 := IntWalk.i64_in _ (by omega); have D7 := hide (D6d.out.draw c7 g7); have B7 := hide (B6d.out.draw g7 hpb); have O7 := hide (own_grown O6d.out g7 hne.out); obtain ⟨a70, a71⟩ := B7.out.at_; obtain ⟨⟨q0, q1, hq0, hq1⟩, f0, f1⟩ := D7.out.res; have hr := D7.out.res.lt)
      all_goals (
        go_wp2
        refine bodyPost_ret (v := .tuple #[.agg #[.int .i64 n, .slice A xs.length c], .int .i64 ((q : Int) - 1)]) (by simp [results, Try.results116, go_sem, hq0, hq1]) rfl ?_
        obtain ⟨h1, h2⟩ := D7.out.own O7.out (.int .i64 n) (.slice A xs.length c)
        exact ⟨n, _, xs, _, Hf.out, by omega, by omega, rfl, h1, h2⟩)

theorem drawDegreeOfS (v : Value) (L : List UInt8) (w : World) (h : BytesAt w w.heap.size v L) (hL : L.length ≤ 1073741824) :
    Calls Try.prog 37 #[v] w fun e w' => RetDXI w e w' := by
  obtain ⟨w1, hW1, _, rs1, b1, z1⟩ := boxRes w 42
  have H1 := hide (nowB9 h b1)
  have Rs1 := hide rs1
  have B1 := hide b1
  have Hz1 := hide z1
  clear h rs1 b1 z1
  go_enter Try.func37, Try.ntmps37
  go_wp2_with fail
  clear hW1
  refine (l3CaseS v L w1 H1.out hL).mono ?_
  rintro e w2 ⟨n, u, xs, t, hf, ht1, ht2, rfl, o2, b2⟩
  obtain ⟨A, c, rfl⟩ := own_shape o2
  have Hf := hide hf
  have Rs2 := hide (Rs1.out.to b2)
  have B2 := hide (nxt B1.out b2)
  have O2 : Hid (OwnV 3 w2 (w.heap.size + 1) (.slice A xs.length c) (ints xs)) := own_mono o2 (by have := Hz1.out; omega)
  clear hf o2 b2
  obtain ⟨w3, hW3⟩ : ∃ X, w2.alloc (.cells #[.int .i64 n, .slice A xs.length c] 42) = X := ⟨_, rfl⟩
  have hb3 := below_alloc w2 (.cells #[.int .i64 n, .slice A xs.length c] 42)
  have X3 := hide (Bx.new (B := w.heap.size + 1) w2 (.int .i64 n) (.slice A xs.length c) 42 (by have := Rs2.out.lt; omega))
  rw [hW3] at hb3 X3
  have Rs3 := hide (Rs2.out.to hb3)
  have B3 := hide (nxt B2.out hb3)
  have O3 := hide (own_below O2.out hb3)
  obtain ⟨a0, a1⟩ := X3.out.at_
  obtain ⟨⟨q0, q1, hq0, hq1⟩, f0, f1⟩ := Rs3.out
  have hr := Rs3.out.lt
  clear hb3
  go_wp2
  refine bodyPost_ret (v := .tuple #[.agg #[.int .i64 n, .slice A xs.length c], .int .i64 t]) (by simp [results, Try.results37, go_sem, hq0, hq1]) rfl ?_
  exact ⟨n, _, xs, t, Hf.out, ht1, ht2, rfl, own_mono (own_setBelow (own_setBelow O3.out (Nat.lt_succ_self _) _ _) (Nat.lt_succ_self _) _ _) (Nat.le_succ _), below_store B3.out (Nat.le_refl _) _ _⟩

theorem drawStarOfS (v : Value) (L : List UInt8) (w : World) (h : BytesAt w w.heap.size v L) (hL : L.length ≤ 1073741824) :
    Calls Try.prog 59 #[v] w fun e w' => RetDXI w e w' := by
  obtain ⟨w1, hW1, _, rs1, b1, z1⟩ := boxRes w 42
  have H1 := hide (nowB9 h b1)
  have Rs1 := hide rs1
  have B1 := hide b1
  have Hz1 := hide z1
  clear h rs1 b1 z1
  go_enter Try.func59, Try.ntmps59
  go_wp2_with fail
  clear hW1
  refine (l3CaseS v L w1 H1.out hL).mono ?_
  rintro e w2 ⟨n, u, xs, t, hf, ht1, ht2, rfl, o2, b2⟩
  obtain ⟨A, c, rfl⟩ := own_shape o2
  have Hf := hide hf
  have Rs2 := hide (Rs1.out.to b2)
  have B2 := hide (nxt B1.out b2)
  have O2 : Hid (OwnV 3 w2 (w.heap.size + 1) (.slice A xs.length c) (ints xs)) := own_mono o2 (by have := Hz1.out; omega)
  clear hf o2 b2
  obtain ⟨w3, hW3⟩ : ∃ X, w2.alloc (.cells #[.int .i64 n, .slice A xs.length c] 42) = X := ⟨_, rfl⟩
  have hb3 := below_alloc w2 (.cells #[.int .i64 n, .slice A xs.length c] 42)
  have X3 := hide (Bx.new (B := w.heap.size + 1) w2 (.int .i64 n) (.slice A xs.length c) 42 (by have := Rs2.out.lt; omega))
  rw [hW3] at hb3 X3
  have Rs3 := hide (Rs2.out.to hb3)
  have B3 := hide (nxt B2.out hb3)
  have O3 := hide (own_below O2.out hb3)
  obtain ⟨a0, a1⟩ := X3.out.at_
  obtain ⟨⟨q0, q1, hq0, hq1⟩, f0, f1⟩ := Rs3.out
  have hr := Rs3.out.lt
  clear hb3
  go_wp2
  refine bodyPost_ret (v := .tuple #[.agg #[.int .i64 n, .slice A xs.length c], .int .i64 t]) (by simp [results, Try.results59, go_sem, hq0, hq1]) rfl ?_
  exact ⟨n, _, xs, t, Hf.out, ht1, ht2, rfl, own_mono (own_setBelow (own_setBelow O3.out (Nat.lt_succ_self _) _ _) (Nat.lt_succ_self _) _ _) (Nat.le_succ _), below_store B3.out (Nat.le_refl _) _ _⟩
end

/- Plain laws for FnCounts: totals of the counts. -/
section
theorem counts_get {n : Int} {xs : List Int} {k : Nat} {x : Int} (h : (faceCounts n xs)[k]? = some x) : x = ((facesOfSize n xs (k : Int)).length : Int) ∧ 0 ≤ x ∧ x ≤ 64 := by
  unfold faceCounts at h
  unfold facesOfSize
  split at h
  · rename_i hc
    rw [if_pos hc, if_pos (by omega : (0 : Int) ≤ (k : Int)), Int.toNat_natCast]
    have hk : k < (countsOf (faceP xs)).length := by
      rcases Nat.lt_or_ge k (countsOf (faceP xs)).length with hlt | hge
      · exact hlt
      · rw [List.getElem?_eq_none hge] at h
        cases h
    rw [countsOf_len] at hk
    rw [countsOf_get _ hk] at h
    have h2 := layer_len (faceP xs) k
    have h3 := Option.some.inj h
    omega
  · cases h
theorem counts_len (n : Int) (xs : List Int) : (faceCounts n xs).length ≤ 7 ∧ ((faceCounts n xs).length : Int) = dimOf n xs + 2 := by
  unfold faceCounts dimOf
  split
  · rw [countsOf_len]
    have := topOf_bd (faceP xs)
    omega
  · simp
theorem counts_small {n : Int} {xs : List Int} : ∀ x ∈ faceCounts n xs, 0 ≤ x ∧ x ≤ 64 := by
  intro x hx
  obtain ⟨k, hk⟩ := List.getElem?_of_mem hx
  exact (counts_get hk).2
theorem cnt_sum (P : Nat → Bool) : ∀ k, ((List.range k).map fun j => ((layer P j).length : Int)).sum = ((lows P k).length : Int)
  | 0 => rfl
  | k + 1 => by
    rw [List.range_succ, List.map_append, List.sum_append, cnt_sum P k, lows_succ, List.length_append]
    simp
theorem lows_more (P : Nat → Bool) {m : Nat} (h : ∀ j, m ≤ j → layer P j = []) : ∀ d, lows P (m + d) = lows P m
  | 0 => rfl
  | d + 1 => by
    rw [show m + (d + 1) = (m + d) + 1 by omega, lows_succ, lows_more P h d, h (m + d) (by omega), List.append_nil]
theorem counts_total (n : Int) (xs : List Int) : (faceCounts n xs).sum = ((facesOf n xs).length : Int) := by
  unfold faceCounts facesOf
  split
  · have hb := topOf_bd (faceP xs)
    obtain ⟨d, hd⟩ : ∃ d, 7 = (topOf (faceP xs) + 1).toNat + d := ⟨7 - (topOf (faceP xs) + 1).toNat, by omega⟩
    show ((List.range _).map _).sum = _
    rw [cnt_sum, ← lows_all, hd, lows_more]
    intro j hj
    exact layer_above (by omega)
  · rfl
theorem eulTo_congr {f g : Nat → Int} : ∀ k, (∀ j, j < k → f j = g j) → eulTo f k = eulTo g k
  | 0, _ => rfl
  | k + 1, h => by
    show (if k % 2 = 1 then eulTo f k + f k else eulTo f k - f k) = (if k % 2 = 1 then eulTo g k + g k else eulTo g k - g k)
    rw [eulTo_congr k (fun j hj => h j (by omega)), h k (by omega)]
theorem counts_signed (n : Int) (xs : List Int) : eulTo (fun j => (faceCounts n xs).getD j 0) (faceCounts n xs).length = eulerOf n xs := by
  unfold faceCounts eulerOf
  split
  · rw [countsOf_len]
    apply eulTo_congr
    intro j hj
    show (countsOf (faceP xs)).getD j 0 = _
    rw [List.getD_eq_getElem?_getD, countsOf_get _ hj]
    rfl
  · rfl
theorem eulTo_bd2 {f : Nat → Int} (h : ∀ j, 0 ≤ f j ∧ f j ≤ 64) : ∀ k : Nat, -(64 * (k : Int)) ≤ eulTo f k ∧ eulTo f k ≤ 64 * (k : Int)
  | 0 => by simp [eulTo]
  | k + 1 => by
    have h1 := eulTo_bd2 h k
    have h2 := h k
    show _ ≤ (if k % 2 = 1 then eulTo f k + f k else eulTo f k - f k) ∧ (if k % 2 = 1 then eulTo f k + f k else eulTo f k - f k) ≤ _
    split <;> omega
/-! ### the points that are faces -/
def pt1 : List Nat := [1, 2, 4, 8, 16, 32]
theorem layer1_all : ((List.range 64).filter fun s => pc s == 1) = pt1 := by decide +kernel
theorem layer1 (P : Nat → Bool) : layer P 1 = pt1.filter P := by
  rw [← layer1_all, List.filter_filter]
  rfl
theorem pc_pts : ((List.range 64).all fun m => pc m == (pt1.filter fun s => sub s m).length) = true := by decide +kernel
theorem sub_or : ((List.range 64).all fun a => (List.range 64).all fun b => pt1.all fun s => sub s (a ||| b) == (sub s a || sub s b)) = true := by decide +kernel
theorem or_lt64 {a b : Nat} (ha : a < 64) (hb : b < 64) : a ||| b < 64 := Nat.or_lt_two_pow (n := 6) ha hb
theorem orAll_pts {xs : List Int} (h : allSets xs = true) : orAll xs < 64 ∧ ∀ s ∈ pt1, sub s (orAll xs) = faceP xs s := by
  have key : ∀ (l : List Int) (a : Nat), a < 64 → (∀ x ∈ l, 0 ≤ x ∧ x < 64) → l.foldl (fun a x => a ||| x.toNat) a < 64 ∧ ∀ s ∈ pt1, sub s (l.foldl (fun a x => a ||| x.toNat) a) = (sub s a || l.any fun x => sub s x.toNat) := by
    intro l
    induction l with
    | nil => intro a ha _; exact ⟨ha, fun s _ => by simp⟩
    | cons y l ih =>
      intro a ha hl
      have hy := hl y (by simp)
      have hy2 : y.toNat < 64 := by omega
      obtain ⟨h1, h2⟩ := ih (a ||| y.toNat) (or_lt64 ha hy2) (fun x hx => hl x (by simp [hx]))
      refine ⟨h1, fun s hs => ?_⟩
      rw [List.foldl_cons, h2 s hs]
      have h3 := List.all_eq_true.1 (List.all_eq_true.1 (List.all_eq_true.1 sub_or a (List.mem_range.2 ha)) y.toNat (List.mem_range.2 hy2)) s hs
      rw [beq_iff_eq] at h3
      rw [h3, List.any_cons, Bool.or_assoc]
  obtain ⟨h1, h2⟩ := key xs 0 (by decide) (fun x hx => allSets_at h hx)
  refine ⟨h1, fun s hs => ?_⟩
  have h3 : sub s 0 = false := by
    simp only [pt1, List.mem_cons, List.not_mem_nil, or_false] at hs
    rcases hs with rfl | rfl | rfl | rfl | rfl | rfl <;> decide
  have h4 := h2 s hs
  rw [h3, Bool.false_or] at h4
  exact h4
theorem used_pts {xs : List Int} (h : allSets xs = true) : orAll xs < 64 ∧ pc (orAll xs) = (layer (faceP xs) 1).length := by
  obtain ⟨h1, h2⟩ := orAll_pts h
  refine ⟨h1, ?_⟩
  have h3 := List.all_eq_true.1 pc_pts _ (List.mem_range.2 h1)
  rw [beq_iff_eq] at h3
  rw [h3, layer1]
  congr 1
  apply List.filter_congr
  exact h2
theorem counts_at1 (n : Int) (xs : List Int) : (faceCounts n xs).getD 1 0 = sizeOf (usedOf n xs) := by
  cases h : isCx n xs
  · have h1 : faceCounts n xs = [] := by unfold faceCounts; rw [h]; rfl
    have h2 : usedOf n xs = 0 := by unfold usedOf; rw [h]; rfl
    rw [h1, h2]
    decide
  · have h1 : faceCounts n xs = countsOf (faceP xs) := by unfold faceCounts; rw [h]; rfl
    have h2 : usedOf n xs = (orAll xs : Int) := by unfold usedOf; rw [h]; rfl
    have hall : allSets xs = true := List.all_eq_true.2 fun x hx => decide_eq_true (isCx_sets h x hx)
    obtain ⟨h3, h4⟩ := used_pts hall
    rw [h1, h2, sizeOf_yes h3, h4, List.getD_eq_getElem?_getD]
    by_cases h5 : 1 < (topOf (faceP xs) + 1).toNat
    · rw [countsOf_get _ h5]
      rfl
    · rw [List.getElem?_eq_none (by rw [countsOf_len]; omega), layer_above (by omega)]
      rfl
end

/- Walks: total, signed, at22 of the laws. -/
section
open Go.RowKit

/-- A call that leaves the world as it was. -/
theorem asBel {P : Program} {f : Nat} {args : Array Value} {w : World} {x : Value} (h : Calls P f args w fun e w' => e = .returned x ∧ w = w') : Calls P f args w fun e w' => e = .returned x ∧ Below w.heap.size w w' :=
  h.mono fun e w' ⟨h1, h2⟩ => ⟨h1, by subst h2; exact Below.refl _ _⟩
theorem asRetN {P : Program} {f : Nat} {args : Array Value} {w : World} {x y : Int} (h : Calls P f args w fun e w' => RetN w x e w') (hxy : x = y) : Calls P f args w fun e w' => RetN w y e w' := by subst hxy; exact h
theorem sum_bd : ∀ (l : List Int), (∀ x ∈ l, 0 ≤ x ∧ x ≤ 64) → 0 ≤ l.sum ∧ l.sum ≤ 64 * (l.length : Int)
  | [], _ => by simp
  | a :: l, h => by
    have h1 := sum_bd l (fun x hx => h x (by simp [hx]))
    have h2 := h a (by simp)
    simp only [List.sum_cons, List.length_cons]
    omega
theorem totalS (v : Value) (ys : List Int) (w : World) (h : IntsAt w w.heap.size v ys) (hl : ys.length ≤ 1000) (hb : ∀ x ∈ ys, 0 ≤ x ∧ x ≤ 64) :
    Calls Try.prog 54 #[v] w fun e w' => e = .returned (.int .i64 ys.sum) ∧ w = w' := by
  obtain ⟨A, c, rfl, _, he⟩ := form_ h
  have Hb := hide hb
  clear h hb
  go_enter Try.func54, Try.ntmps54
  go_wp2
  go_loop [3, 4] (fun a i => ∃ k : Nat, k ≤ ys.length ∧ i = .int .i64 k ∧ a = .int .i64 (ys.take k).sum) (fun _ i => ys.length - (intOf i).toNat)
  case atStart => exact ⟨0, by omega, rfl, rfl⟩
  case round =>
    obtain ⟨k, hk, rfl, rfl⟩ := hrel
    have hbd := sum_bd (ys.take k) (fun x hx => Hb.out x (List.mem_of_mem_take hx))
    have htk : (ys.take k).length ≤ 1000 := by rw [List.length_take]; omega
    by_cases hlt : k < ys.length
    · obtain ⟨b, o, x, rfl, hbb, hx, hcell⟩ := he k hlt
      have hx64 := Hb.out x (List.mem_of_getElem? hx)
      have Hs : Hid ((ys.take (k + 1)).sum = (ys.take k).sum + x) := by
        show _ = _
        rw [take_snoc _ _ _ hx, List.sum_append]
        simp
      clear hx he
      generalize (ys.take k).sum = s1 at *
      go_wp2
      go_round
      case rel => exact ⟨k + 1, by omega, by go_num, by rw [Hs.out]⟩
      case measure => simp [intOf]; omega
    · have Ht := hide (take_all ys k (by omega))
      clear he
      go_wp2
      go_ret
      exact ⟨ret_int (by rw [Ht.out]), rfl⟩
theorem signedS (v : Value) (ys : List Int) (w : World) (h : IntsAt w w.heap.size v ys) (hl : ys.length ≤ 1000) (hb : ∀ x ∈ ys, 0 ≤ x ∧ x ≤ 64) (f : Nat → Int) (hf : ∀ j, f j = ys.getD j 0) :
    Calls Try.prog 56 #[v] w fun e w' => e = .returned (.int .i64 (eulTo f ys.length)) ∧ w = w' := by
  obtain ⟨A, c, rfl, _, he⟩ := form_ h
  have Hb := hide hb
  have hbf : Hid (∀ j, 0 ≤ f j ∧ f j ≤ 64) := by
    intro j
    rw [hf, List.getD_eq_getElem?_getD]
    cases hj : ys[j]? with
    | none => decide
    | some x => exact hb x (List.mem_of_getElem? hj)
  have Hf := hide hf
  clear h hb hf
  go_enter Try.func56, Try.ntmps56
  go_wp2
  go_loop [3, 4] (fun a i => ∃ k : Nat, k ≤ ys.length ∧ i = .int .i64 k ∧ a = .int .i64 (eulTo f k)) (fun _ i => ys.length - (intOf i).toNat)
  case atStart => exact ⟨0, by omega, rfl, rfl⟩
  case round =>
    obtain ⟨k, hk, rfl, rfl⟩ := hrel
    have hbd := eulTo_bd2 hbf.out k
    by_cases hlt : k < ys.length
    · obtain ⟨b, o, x, rfl, hbb, hx, hcell⟩ := he k hlt
      have hx64 := Hb.out x (List.mem_of_getElem? hx)
      have hgx : f k = x := by rw [Hf.out, List.getD_eq_getElem?_getD, hx]; rfl
      by_cases hodd : k % 2 = 1
      · have Hs : Hid (eulTo f (k + 1) = eulTo f k + x) := by
          show (if k % 2 = 1 then _ else _) = _
          rw [if_pos hodd]
          rw [hgx]
        have hq : (k : Int) % 2 = 1 := by omega
        clear hodd hx he hgx
        go_wp2
        go_round
        case rel => exact ⟨k + 1, by omega, by go_num, by rw [Hs.out]⟩
        case measure => simp [intOf]; omega
      · have Hs : Hid (eulTo f (k + 1) = eulTo f k + -x) := by
          show (if k % 2 = 1 then _ else _) = _
          rw [if_neg hodd]
          rw [hgx]
          exact Int.sub_eq_add_neg
        have hq : (k : Int) % 2 = 0 := by omega
        clear hodd hx he hgx
        go_wp2
        go_round
        case rel => exact ⟨k + 1, by omega, by go_num, by rw [Hs.out]⟩
        case measure => simp [intOf]; omega
    · obtain rfl : k = ys.length := by omega
      clear he
      go_wp2
      go_ret
      exact ⟨rfl, rfl⟩
theorem at22_1S (v : Value) (ys : List Int) (w : World) (h : IntsAt w w.heap.size v ys) (hl : ys.length ≤ 1000) :
    Calls Try.prog 57 #[v, .int .i64 1] w fun e w' => e = .returned (.int .i64 (ys.getD 1 0)) ∧ w = w' := by
  obtain ⟨A, c, rfl, _, he⟩ := form_ h
  by_cases h1 : 1 < ys.length
  · obtain ⟨b, o, x, rfl, hbb, hx, hcell⟩ := he 1 h1
    have Hg : Hid (ys.getD 1 0 = x) := by show _ = _; rw [List.getD_eq_getElem?_getD, hx]; rfl
    clear hx he h
    go_enter Try.func57, Try.ntmps57
    go_wp2
    go_ret
    exact ⟨ret_int Hg.out.symm, rfl⟩
  · have Hg : Hid (ys.getD 1 0 = 0) := by show _ = _; rw [List.getD_eq_getElem?_getD, List.getElem?_eq_none (by omega)]; rfl
    clear he h
    go_enter Try.func57, Try.ntmps57
    go_wp2
    go_ret
    exact ⟨ret_int Hg.out.symm, rfl⟩
end

/- Walks: SetsText in the program and in the reference; the laws' helpers szStringS, toStringS. -/
section
open Go.RowKit

def setsTxt (xs : List Int) : List UInt8 := Lib.join (xs.map setTxtOf) [44]
theorem txtTo_len6 (s : Nat) : (setTxt s).length ≤ 6 := by
  unfold setTxt
  split
  · simp
  · exact txtTo_len s 6
theorem setTxtOf_len (s : Int) : (setTxtOf s).length ≤ 6 := by
  unfold setTxtOf
  split
  · exact txtTo_len6 _
  · simp
theorem lens_txts : ∀ xs : List Int, Lib.lens (xs.map setTxtOf) ≤ 6 * xs.length
  | [] => by simp [Lib.lens]
  | x :: xs => by
    have h1 := lens_txts xs
    have h2 := setTxtOf_len x
    have e : Lib.lens ((x :: xs).map setTxtOf) = (setTxtOf x).length + Lib.lens (xs.map setTxtOf) := by simp [Lib.lens]
    rw [e, List.length_cons]
    omega
theorem txts_bound (xs : List Int) (hl : xs.length ≤ 1073741824) : Lib.lens (xs.map setTxtOf) + (xs.map setTxtOf).length * ([44] : List UInt8).length ≤ 70368744177664 := by
  have h := lens_txts xs
  rw [List.length_map]
  show _ + xs.length * 1 ≤ _
  omega
def txts (xs : List Int) (k : Nat) : List (List UInt8) := (xs.take k).map setTxtOf
theorem txts_snoc {xs : List Int} {k : Nat} {x : Int} (h : xs[k]? = some x) : txts xs (k + 1) = txts xs k ++ [setTxtOf x] := by
  unfold txts
  rw [take_snoc _ _ _ h, List.map_append]
  rfl
theorem txts_len (xs : List Int) (k : Nat) : (txts xs k).length ≤ xs.length := by
  unfold txts
  rw [List.length_map, List.length_take]
  omega
theorem txts_all {xs : List Int} {k : Nat} (h : xs.length ≤ k) : txts xs k = xs.map setTxtOf := by
  unfold txts
  rw [take_all _ _ h]

theorem setsTextS (v : Value) (xs : List Int) (w : World) (h : IntsAt w w.heap.size v xs) (hl : xs.length ≤ 1073741824) :
    Calls Try.prog 25 #[v] w fun e w' => RetS w (setsTxt xs) e w' := by
  obtain ⟨A, c, rfl, hc, he⟩ := form_ h
  have He := hide he
  clear h he hc
  go_enter Try.func25, Try.ntmps25
  go_wp2
  have Ho0 : Hid (OwnV 9 (w.alloc (.cells #[] 9)) w.heap.size (.slice (some ⟨w.heap.size, 0, none⟩) 0 0) (strsV (txts xs 0))) := own_empty _ _
  have Hb0 := hide (below_alloc w (.cells #[] 9))
  go_loopw [3, 4] (fun u5 i wr => ∃ k : Nat, k ≤ xs.length ∧ i = .int .i64 k ∧ Hid (OwnV 9 wr w.heap.size u5 (strsV (txts xs k))) ∧ Hid (Below w.heap.size w wr)) (fun _ i _ => xs.length - (intOf i).toNat)
  case atStart => exact ⟨0, by omega, rfl, Ho0, Hb0⟩
  case round =>
    obtain ⟨k, hk, rfl, hown, hb⟩ := hrel
    by_cases hlt : k < xs.length
    · obtain ⟨b, o, x, rfl, hbb, hx, hcell0⟩ := He.out k hlt
      have hcell := (hb.out.cell (p := ⟨b, o + k, none⟩) hbb).trans hcell0
      have Hx := hide (txts_snoc hx)
      have hln := txts_len xs k
      clear hcell0 hx
      go_wp2_with fail
      refine (setTextS x wr).mono ?_
      rintro e w4 ⟨rfl, b4⟩
      have Hb4 := hide (hb.out.trans (b4.mono hb.out.size))
      have ho4 := own_below hown.out b4
      have hlen : (strsV (txts xs k)).length < 17179869184 := by rw [strsV_length]; omega
      have hsz := Hb4.out.size
      clear b4 hcell
      go_wp2_with (at_builtin; refine wpList_appV ho4 (.string ⟨(setTxtOf x).toArray⟩) (.string ⟨#[]⟩) 16 Try.underlying25 infoS rfl (by decide) rfl rfl _ _ rfl rfl rfl hlen hsz ?_; intro v' w5 hown5 hb5 _)
      have Hown5 : Hid (OwnV 9 w5 w.heap.size v' (strsV (txts xs (k + 1)))) := by show OwnV _ _ _ _ _; rw [Hx.out, strsV_snoc]; exact hown5
      have Hb5 : Hid (Below w.heap.size w w5) := Hb4.out.trans hb5
      go_wp2
      go_roundw
      case rel => exact ⟨k + 1, by omega, by go_num, Hown5, Hb5⟩
      case measure => simp [intOf]; omega
    · have hk2 : xs.length ≤ k := by omega
      have ho := hown.out
      rw [txts_all hk2] at ho
      have Ho := hide ho
      have Hbd := hide (txts_bound xs hl)
      clear ho hown
      go_wp2_with fail
      refine (joinS _ (xs.map setTxtOf) [44] wr (own_reads Ho.out) (by rw [List.length_map]; omega) Hbd.out).mono ?_
      rintro e w6 ⟨rfl, b6⟩
      have B6 := hide (hb.out.trans (b6.mono hb.out.size))
      go_wp2
      go_ret
      exact ⟨rfl, B6.out⟩

theorem setsTextI (v : Value) (xs : List Int) (w : World) (h : IntsAt w w.heap.size v xs) (hl : xs.length ≤ 1073741824) :
    Calls Try.prog 27 #[v] w fun e w' => RetS w (setsTxt xs) e w' := by
  obtain ⟨A, c, rfl, hc, he⟩ := form_ h
  have He := hide he
  clear h he hc
  obtain ⟨i0, hi, hz0, hz1, hz2⟩ := info_parts infoS
  have hby : i0.bytes * xs.length ≤ 281474976710656 := by rw [hz2]; omega
  have hml : xs.length ≤ maxLen := by unfold maxLen; omega
  go_enter Try.func27, Try.ntmps27
  go_wp2_with (at_make; refine wpList_make_own _ rfl _ _ 25 rfl w.heap.size 9 i0 (.string ⟨#[]⟩) 1 Try.underlying25 hi hz0 hz1 .i64 .i64 _ xs.length rfl rfl rfl hby hml (Nat.le_refl _) ?_; intro w1 hown1 hg1)
  have Ho0 : Hid (OwnV 9 w1 w.heap.size (.slice (some ⟨w.heap.size, 0, none⟩) 0 xs.length) (strsV (txts xs 0))) := hown1
  have Hb0 : Hid (Below w.heap.size w w1) := grown_below hg1 (Nat.le_refl _) (fun k hk => by cases hk)
  clear hown1 hg1 hi hz0 hz1 hz2 hby hml
  go_loopw [3, 5, 11] (fun u5 _ i wr => ∃ k : Nat, k ≤ xs.length ∧ i = .int .i64 k ∧ Hid (OwnV 9 wr w.heap.size u5 (strsV (txts xs k))) ∧ Hid (Below w.heap.size w wr)) (fun _ _ i _ => xs.length - (intOf i).toNat)
  case atStart => exact ⟨0, by omega, rfl, Ho0, Hb0⟩
  case round =>
    obtain ⟨k, hk, rfl, hown, hb⟩ := hrel
    by_cases hlt : k < xs.length
    · obtain ⟨b, o, x, rfl, hbb, hx, hcell0⟩ := He.out k hlt
      have hcell := (hb.out.cell (p := ⟨b, o + k, none⟩) hbb).trans hcell0
      have Hx := hide (txts_snoc hx)
      have hln := txts_len xs k
      clear hcell0 hx
      go_wp2_with fail
      refine (setTextI x wr).mono ?_
      rintro e w4 ⟨rfl, b4⟩
      have Hb4 := hide (hb.out.trans (b4.mono hb.out.size))
      have ho4 := own_below hown.out b4
      have hlen : (strsV (txts xs k)).length < 17179869184 := by rw [strsV_length]; omega
      have hsz := Hb4.out.size
      clear b4 hcell
      go_wp2_with (at_builtin; refine wpList_appV ho4 (.string ⟨(setTxtOf x).toArray⟩) (.string ⟨#[]⟩) 16 Try.underlying25 infoS rfl (by decide) rfl rfl _ _ rfl rfl rfl hlen hsz ?_; intro v' w5 hown5 hb5 _)
      have Hown5 : Hid (OwnV 9 w5 w.heap.size v' (strsV (txts xs (k + 1)))) := by show OwnV _ _ _ _ _; rw [Hx.out, strsV_snoc]; exact hown5
      have Hb5 : Hid (Below w.heap.size w w5) := Hb4.out.trans hb5
      go_wp2
      go_roundw
      case rel => exact ⟨k + 1, by omega, by go_num, Hown5, Hb5⟩
      case measure => simp [intOf]; omega
    · have hk2 : xs.length ≤ k := by omega
      have ho := hown.out
      rw [txts_all hk2] at ho
      have hbd := txts_bound xs hl
      have Hc : Hid (∀ u, OwnV 9 wr w.heap.size u (strsV (xs.map setTxtOf)) → Calls Try.prog 103 #[u, .string ⟨([44] : List UInt8).toArray⟩] wr fun e w' => RetS wr (setsTxt xs) e w') := fun u hu => stringsJoinV u (xs.map setTxtOf) [44] wr (own_reads hu) (by rw [List.length_map]; omega) hbd
      have Ho := hide ho
      clear ho hown hbd
      go_wp2_with fail
      refine (Hc.out _ Ho.out).mono ?_
      rintro e w6 ⟨rfl, b6⟩
      have B6 := hide (hb.out.trans (b6.mono hb.out.size))
      go_wp2
      go_ret
      exact ⟨rfl, B6.out⟩

/-! ### the laws' helpers on lists of strings -/
def szOf (ls : List (List UInt8)) : Nat := ls.length + Lib.lens ls
theorem lens_split (ls : List (List UInt8)) (k : Nat) : Lib.lens (ls.take k) ≤ Lib.lens ls := Lib.lens_take_le ls k
theorem szStringS_any (v : Value) (ls : List (List UInt8)) (left : Int) (w : World) (h : StrsAt w w.heap.size v ls) (hl : ls.length ≤ 9223372036854775807) (hls : ∀ l ∈ ls, l.length ≤ 9223372036854775807) (h0 : 0 ≤ left) (h1 : left ≤ 1048576) :
    Calls Try.prog 16 #[v, .int .i64 left] w fun e w' => RetN w (if left < szOf ls then -1 else left - szOf ls) e w' := by
  obtain ⟨A, c, rfl, hc, he⟩ := formS_ h
  have He := hide he
  have Hls := hide hls
  clear h hc he hls
  by_cases hlt : left < ls.length
  · have e : left < szOf ls := by unfold szOf; omega
    rw [if_pos e]
    clear e
    go_enter Try.func16, Try.ntmps16
    go_wp2
    go_ret
    exact ⟨rfl, Below.refl _ _⟩
  · have hge : ls.length ≤ left := by omega
    generalize hr : (if left < szOf ls then -1 else left - szOf ls) = r
    have Hr := hide hr
    clear hlt hr
    go_enter Try.func16, Try.ntmps16
    go_wp2
    go_loop [1, 5] (fun r i => ∃ k : Nat, k ≤ ls.length ∧ i = .int .i64 k ∧ Lib.lens (ls.take k) ≤ left - ls.length ∧ r = .int .i64 (left - ls.length - Lib.lens (ls.take k))) (fun _ i => ls.length - (intOf i).toNat)
    case atStart => exact ⟨0, by omega, rfl, by simp [Lib.lens]; omega, by simp [Lib.lens]⟩
    case round =>
      obtain ⟨k, hk, rfl, hle, rfl⟩ := hrel
      by_cases hlt : k < ls.length
      · obtain ⟨b, o, y, rfl, hbb, hy, hcell⟩ := He.out k hlt
        have hs := Lib.lens_take_succ ls k y hy
        have hyl := Hls.out y (List.mem_of_getElem? hy)
        have hle2 := lens_split ls (k + 1)
        rw [hs] at hle2
        have Hs := hide hs
        clear hs hy
        by_cases hfit : (Lib.lens (ls.take k) : Int) + y.length ≤ left - ls.length
        · go_wp2
          go_round
          case rel => exact ⟨k + 1, by omega, by go_num, by rw [Hs.out]; omega, by rw [Hs.out]; congr 1; omega⟩
          case measure => simp [intOf]; omega
        · have hneg : left < szOf ls := by unfold szOf; omega
          have Hneg := hide hneg
          clear hneg
          go_wp2
          go_ret
          exact ⟨ret_int (by rw [← Hr.out, if_pos Hneg.out]), Below.refl _ _⟩
      · have hk2 : ls.length ≤ k := by omega
        have Ht := hide (take_all ls k hk2)
        have Hle := hide hle
        go_wp2
        go_ret
        refine ⟨ret_int ?_, Below.refl _ _⟩
        have hle := Hle.out
        rw [Ht.out] at hle ⊢
        rw [← Hr.out, if_neg (by unfold szOf; omega)]
        unfold szOf
        omega
theorem copiedS_set (xs : List (List UInt8)) (i : Nat) (x : List UInt8) (h : xs[i]? = some x) : (xs.take i ++ List.replicate (xs.length - i) []).set i x = xs.take (i + 1) ++ List.replicate (xs.length - (i + 1)) [] := by
  have hl := (List.getElem?_eq_some_iff.1 h).1
  have ht : (xs.take i).length = i := by rw [List.length_take]; omega
  rw [List.set_append_right _ _ (by omega), ht, Nat.sub_self, show xs.length - i = (xs.length - (i + 1)) + 1 by omega, List.replicate_succ, List.set_cons_zero, take_snoc _ _ _ h]
  simp
theorem copiedS_len (xs : List (List UInt8)) (i : Nat) (h : i ≤ xs.length) : (xs.take i ++ List.replicate (xs.length - i) ([] : List UInt8)).length = xs.length := by
  rw [List.length_append, List.length_take, List.length_replicate]
  omega
theorem toStringS_any (v : Value) (xs : List (List UInt8)) (w : World) (h : StrsAt w w.heap.size v xs) (hl : xs.length ≤ 1073741824) :
    Calls Try.prog 18 #[v] w fun e w' => RetSs 9 w xs e w' := by
  obtain ⟨A, c, rfl, hc, he⟩ := formS_ h
  have He := hide he
  clear h he
  go_enter Try.func18, Try.ntmps18
  go_wp2_with (at_make; refine wpList_makeV (.string ⟨#[]⟩) 16 xs.length Try.underlying25 infoS rfl (by decide) (by omega) rfl _ _ rfl rfl rfl ?_; intro w1 hown1 hb1)
  have hown : OwnV 9 w1 w.heap.size (.slice (some ⟨w.heap.size, 0, none⟩) xs.length xs.length) (strsV (xs.take 0 ++ List.replicate (xs.length - 0) [])) := by simpa [strsV] using hown1
  have Hown := hide hown
  have Hb1 := hide hb1
  clear hown hown1 hb1
  go_loopw [4] (fun i wr => ∃ k : Nat, k ≤ xs.length ∧ i = .int .i64 k ∧ OwnV 9 wr w.heap.size (.slice (some ⟨w.heap.size, 0, none⟩) xs.length xs.length) (strsV (xs.take k ++ List.replicate (xs.length - k) [])) ∧ Below w.heap.size w wr) (fun i _ => xs.length - (intOf i).toNat)
  case atStart => exact ⟨0, by omega, rfl, Hown.out, Hb1.out⟩
  case round =>
    obtain ⟨k, hk, rfl, hown, hb⟩ := hrel
    by_cases hlt : k < xs.length
    · obtain ⟨b, o, x, rfl, hbb, hx, hcx0⟩ := He.out k hlt
      have hcx : wr.cell? ⟨b, o + k, none⟩ = some (.string ⟨x.toArray⟩) := (hb.cell (p := ⟨b, o + k, none⟩) hbb).trans hcx0
      have hcl := copiedS_len xs k hk
      have hcs := copiedS_set xs k x hx
      have hvv : Value.slice (some ⟨w.heap.size, 0, none⟩) xs.length xs.length = .slice (some ⟨w.heap.size, 0, none⟩) (strsV (xs.take k ++ List.replicate (xs.length - k) [])).length xs.length := by rw [strsV_length, hcl]
      obtain ⟨u, hu⟩ : ∃ u, (strsV (xs.take k ++ List.replicate (xs.length - k) []))[k]? = some u := ⟨_, List.getElem?_eq_getElem (by rw [strsV_length, hcl]; omega)⟩
      obtain ⟨hc1, hf1⟩ := own_cell hown hvv hu
      have hset := own_set hown hvv k (.string ⟨x.toArray⟩)
      have es : (strsV (xs.take k ++ List.replicate (xs.length - k) [])).set k (.string ⟨x.toArray⟩) = strsV (xs.take (k + 1) ++ List.replicate (xs.length - (k + 1)) []) := by rw [← hcs]; simp [strsV, List.map_set]
      rw [es] at hset
      have Hs := hide hset
      have Hb : Hid (Below w.heap.size w (wr.setCell ⟨w.heap.size, k, none⟩ (.string ⟨x.toArray⟩))) := hb.setCell (by exact Nat.le_refl _) _
      clear hset es hvv hu hown hb hcl hcs hx hcx0
      go_wp2
      go_roundw
      case rel => exact ⟨k + 1, by omega, by go_num, Hs.out, Hb.out⟩
      case measure => simp [intOf]; omega
    · have hk2 := hide (show k = xs.length by omega)
      have hge : xs.length ≤ k := by omega
      go_wp2
      go_ret
      refine ⟨_, rfl, ?_, hb⟩
      have := hown
      rw [take_all _ _ hge, show xs.length - k = 0 by omega, List.replicate_zero, List.append_nil] at this
      exact this
end
end Go.Proofs.Ytmkacjpjcfffmaa
