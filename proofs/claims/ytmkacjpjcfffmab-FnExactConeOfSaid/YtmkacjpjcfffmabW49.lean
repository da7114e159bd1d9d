/- Walks: l6Fit, JoinOf, DisjointOf in the reference. Printed by gen/w49.py. -/
import Derived.Test.YtmkacjpjcfffmabW48
namespace Go.Proofs.Ytmkacjpjcfffmab
open Go.RowKit

theorem joinOk_yes {n m : Int} {xs ys : List Int} (h : joinOk n m xs ys = true) : isCx n xs = true ∧ isCx m ys = true ∧ n + m ≤ 6 := by
  unfold joinOk at h
  rw [Bool.and_eq_true, Bool.and_eq_true] at h
  exact ⟨h.1.1, h.1.2, of_decide_eq_true h.2⟩
theorem l6FitS (n : Int) (v : Value) (xs : List Int) (m : Int) (u : Value) (ys : List Int) (w : World) (h : IntsAt w w.heap.size v xs) (k : IntsAt w w.heap.size u ys) (hl : xs.length ≤ 1048576) (kl : ys.length ≤ 1048576) :
    Calls Try.prog 46 #[.agg #[.int .i64 n, v], .agg #[.int .i64 m, u]] w fun e w' => RetB w (joinOk n m xs ys) e w' := by
  obtain ⟨A, c, rfl⟩ := reads_shape h
  obtain ⟨A', c', rfl⟩ := reads_shape k
  obtain ⟨w1, hW1, at1, b1, z1⟩ := boxC w (.int .i64 n) (.slice A xs.length c) 27
  obtain ⟨w2, hW2, at2, b2, z2⟩ := boxC w1 (.int .i64 m) (.slice A' ys.length c') 27
  have b02 := nxt b1 b2
  have R2 := hide (now_ h b02)
  have K2 := hide (now_ k b02)
  have at1 := at1.to b2
  have At1 := hide at1
  have At2 := hide at2
  have B2 := hide b02
  obtain ⟨e1_0, e1_1⟩ := at1
  obtain ⟨e2_0, e2_1⟩ := at2
  clear h k b1 b2 b02 z1 z2
  cases hca : isCx n xs
  · have Hca := hide hca
    have Hok : Hid (joinOk n m xs ys = false) := by show _ = _; unfold joinOk; rw [hca]; rfl
    clear hca
    go_enter Try.func46, Try.ntmps46
    go_wp2_with fail
    clear hW1 hW2
    refine (isComplexS n _ xs w2 R2.out (by omega)).mono ?_
    rw [Hca.out]
    rintro e w3 ⟨rfl, b3⟩
    have B3 := hide (nxt B2.out b3)
    clear b3
    go_wp2
    go_ret
    exact ⟨ret_bool Hok.out.symm, B3.out⟩
  · have Hca := hide hca
    cases hcb : isCx m ys
    · have Hcb := hide hcb
      have Hok : Hid (joinOk n m xs ys = false) := by show _ = _; unfold joinOk; rw [hca, hcb]; rfl
      clear hca hcb
      go_enter Try.func46, Try.ntmps46
      go_wp2_with fail
      clear hW1 hW2
      refine (isComplexS n _ xs w2 R2.out (by omega)).mono ?_
      rw [Hca.out]
      rintro e w3 ⟨rfl, b3⟩
      obtain ⟨p3_0, p3_1⟩ := At2.out.to b3
      have K3 := hide (now_ K2.out b3)
      have B3 := hide (nxt B2.out b3)
      clear b3 e1_0 e1_1 e2_0 e2_1
      go_wp2_with fail
      refine (isComplexS m _ ys w3 K3.out (by omega)).mono ?_
      rw [Hcb.out]
      rintro e w4 ⟨rfl, b4⟩
      have B4 := hide (nxt B3.out b4)
      clear b4
      go_wp2
      go_ret
      exact ⟨ret_bool Hok.out.symm, B4.out⟩
    · have Hcb := hide hcb
      obtain ⟨hn1, hn6⟩ := (isCx_inv hca).1
      obtain ⟨hm1, hm6⟩ := (isCx_inv hcb).1
      have Hok : Hid (joinOk n m xs ys = decide (n + m ≤ 6)) := by show _ = _; unfold joinOk; rw [hca, hcb]; rfl
      clear hca hcb
      go_enter Try.func46, Try.ntmps46
      go_wp2_with fail
      clear hW1 hW2
      refine (isComplexS n _ xs w2 R2.out (by omega)).mono ?_
      rw [Hca.out]
      rintro e w3 ⟨rfl, b3⟩
      have At1_3 := hide (At1.out.to b3)
      have At2_3 := hide (At2.out.to b3)
      obtain ⟨p3_0, p3_1⟩ := At2_3.out
      have K3 := hide (now_ K2.out b3)
      have B3 := hide (nxt B2.out b3)
      clear b3 e1_0 e1_1 e2_0 e2_1
      go_wp2_with fail
      refine (isComplexS m _ ys w3 K3.out (by omega)).mono ?_
      rw [Hcb.out]
      rintro e w4 ⟨rfl, b4⟩
      obtain ⟨a4_0, a4_1⟩ := At1_3.out.to b4
      obtain ⟨p4_0, p4_1⟩ := At2_3.out.to b4
      have B4 := hide (nxt B3.out b4)
      clear b4 p3_0 p3_1
      go_wp2
      go_ret
      exact ⟨ret_bool Hok.out.symm, B4.out⟩

theorem join_all {n m : Int} {xs ys : List Int} (h : isCx n xs = true) (k : isCx m ys = true) (hq : n + m ≤ 6) : allSets (zs (prods (besideN n.toNat) xs ys)) = true :=
  prods_all fun x hx y hy => by
    obtain ⟨h0, h1⟩ := isCx_sets h x hx
    obtain ⟨k0, k1⟩ := isCx_sets k y hy
    obtain ⟨i, hi, hie⟩ := List.mem_iff_getElem.1 hx
    obtain ⟨j, hj, hje⟩ := List.mem_iff_getElem.1 hy
    obtain ⟨X, rfl⟩ := Int.eq_ofNat_of_zero_le h0
    obtain ⟨Y, rfl⟩ := Int.eq_ofNat_of_zero_le k0
    exact beside_small (isCx_inv h).1.1 (isCx_inv k).1.1 hq (isCx_bit h (List.getElem?_eq_some_iff.2 ⟨hi, hie⟩)) (isCx_bit k (List.getElem?_eq_some_iff.2 ⟨hj, hje⟩))
theorem join_max {n m : Int} {xs ys : List Int} (h : isCx n xs = true) (k : isCx m ys = true) (hq : n + m ≤ 6) : maxOf (inList (zs (prods (besideN n.toNat) xs ys))) = maxOf (faceP (zs (joinL n xs ys))) := maxOf_list (join_all h k hq)
theorem dis_all {n m : Int} {xs ys : List Int} (h : isCx n xs = true) (k : isCx m ys = true) (hq : n + m ≤ 6) : allSets (disL n xs ys) = true := by
  unfold disL
  refine allSets_append (cx_all h) (allSets_zs fun s hs => ?_)
  obtain ⟨y, hy, rfl⟩ := List.mem_map.1 hs
  obtain ⟨k0, k1⟩ := isCx_sets k y hy
  obtain ⟨j, hj, hje⟩ := List.mem_iff_getElem.1 hy
  obtain ⟨Y, rfl⟩ := Int.eq_ofNat_of_zero_le k0
  exact (moved_small (isCx_inv h).1.1 (isCx_inv k).1.1 hq (isCx_bit k (List.getElem?_eq_some_iff.2 ⟨hj, hje⟩))).1
theorem dis_len (n : Int) (xs ys : List Int) : (disL n xs ys).length = xs.length + ys.length := by
  unfold disL moveL
  rw [List.length_append, List.length_map, List.length_map]
theorem dis_max {n m : Int} {xs ys : List Int} (h : isCx n xs = true) (k : isCx m ys = true) (hq : n + m ≤ 6) : maxOf (inList (disL n xs ys)) = maxOf (faceP (disL n xs ys)) := maxOf_list (dis_all h k hq)

theorem joinOfS (n : Int) (v : Value) (xs : List Int) (m : Int) (u : Value) (ys : List Int) (w : World) (h : IntsAt w w.heap.size v xs) (k : IntsAt w w.heap.size u ys) (hl : xs.length ≤ 1048576) (kl : ys.length ≤ 1048576) :
    Calls Try.prog 29 #[.agg #[.int .i64 n, v], .agg #[.int .i64 m, u]] w fun e w' => RetCB 3 w (cbN (joinOk n m xs ys) (n + m)) (cbXs (joinOk n m xs ys) (maxOf (faceP (zs (joinL n xs ys))))) (joinOk n m xs ys) e w' := by
  obtain ⟨A, c, rfl⟩ := reads_shape h
  obtain ⟨A', c', rfl⟩ := reads_shape k
  obtain ⟨w1, hW1, at1, b1, z1⟩ := boxC w (.int .i64 n) (.slice A xs.length c) 27
  obtain ⟨w2, hW2, at2, b2, z2⟩ := boxC w1 (.int .i64 m) (.slice A' ys.length c') 27
  obtain ⟨w3, hW3, at3, rs3, b3, z3⟩ := boxRes w2 27
  have b02 := nxt b1 b2
  have b03 := nxt b02 b3
  have R3 := hide (now_ h b03)
  have K3 := hide (now_ k b03)
  have at1 := (at1.to b2).to b3
  have at2 := at2.to b3
  have At1 := hide at1
  have At2 := hide at2
  have At3 := hide at3
  have Rs3 := hide rs3
  have B3 := hide b03
  have Hle : Hid (w.heap.size ≤ w2.heap.size) := by show _ ≤ _; omega
  have Hne1 : Hid (w.heap.size ≠ w2.heap.size) := by show _ ≠ _; omega
  have Hne2 : Hid (w1.heap.size ≠ w2.heap.size) := by show _ ≠ _; omega
  obtain ⟨e1_0, e1_1⟩ := at1
  obtain ⟨e2_0, e2_1⟩ := at2
  obtain ⟨e3_0, e3_1⟩ := at3
  clear h k b1 b2 b3 b02 b03 z1 z2 z3 rs3
  by_cases hok : joinOk n m xs ys = false
  · have Hok := hide hok
    clear hok
    go_enter Try.func29, Try.ntmps29
    go_wp2_with fail
    clear hW1 hW2 hW3
    refine (l6FitS n _ xs m _ ys w3 R3.out K3.out hl kl).mono ?_
    rw [Hok.out]
    rintro e w4 ⟨rfl, b4⟩
    obtain ⟨q4_0, q4_1⟩ := At3.out.to b4
    obtain ⟨_, f40, f41⟩ := (Rs3.out).to b4
    have hr4 : w2.heap.size < w4.heap.size := ((Rs3.out).to b4).lt
    have B4 := hide (nxt B3.out b4)
    clear b4 e1_0 e1_1 e2_0 e2_1 e3_0 e3_1
    go_wp2
    refine bodyPost_ret (v := .tuple #[.agg #[.int .i64 0, .slice none 0 0], .bool false]) (by simp [results, Try.results29, go_sem, q4_0, q4_1]) rfl ?_
    exact retCB_no Hok.out (below_store B4.out Hle.out _ _)
  have hok : joinOk n m xs ys = true := by simpa using hok
  have Hok := hide hok
  obtain ⟨hca, hcb, hq⟩ := joinOk_yes hok
  have Hca := hide hca
  have Hcb := hide hcb
  obtain ⟨hn1, hn6⟩ := (isCx_inv hca).1
  obtain ⟨hm1, hm6⟩ := (isCx_inv hcb).1
  clear hok hca hcb
  have Hl1 := hide (cx_len Hca.out)
  have Hl2 := hide (cx_len Hcb.out)
  have Hmax := hide (join_max Hca.out Hcb.out hq)
  have Hall := hide (join_all Hca.out Hcb.out hq)
  have Hlz : Hid ((zs (prods (besideN n.toNat) xs ys)).length ≤ 1073741824) := by show _ ≤ _; rw [List.length_map, prods_len]; have h2 : xs.length * ys.length ≤ 448 * 448 := Nat.mul_le_mul Hl1.out Hl2.out; omega
  have hu : IntKind.u64.wrap n = n := IntWalk.u64_in _ (by omega)
  have hmin : min n.toNat 64 = n.toNat := by omega
  go_enter Try.func29, Try.ntmps29
  go_wp2_with fail
  clear hW1 hW2 hW3
  refine (l6FitS n _ xs m _ ys w3 R3.out K3.out hl kl).mono ?_
  rw [Hok.out]
  rintro e w5 ⟨rfl, b5⟩
  obtain ⟨a5_0, a5_1⟩ := At1.out.to b5
  obtain ⟨p5_0, p5_1⟩ := At2.out.to b5
  have R5 := hide (now_ R3.out b5)
  have K5 := hide (now_ K3.out b5)
  have At1_5 := hide (At1.out.to b5)
  have At2_5 := hide (At2.out.to b5)
  have Rs3_5 := hide (Rs3.out.to b5)
  have B5 := hide (nxt B3.out b5)
  clear b5 e1_0 e1_1 e2_0 e2_1 e3_0 e3_1
  have He1 := hide (cxElems R5.out Hca.out)
  have He2 := hide (cxElems K5.out Hcb.out)
  obtain ⟨ho, hbw⟩ : OwnV 3 (w5.alloc (.cells #[] 3)) w5.heap.size (.slice (some ⟨w5.heap.size, 0, none⟩) 0 0) (ints (zs (prodTo (besideN n.toNat) xs ys 0 0))) ∧ Below w5.heap.size w5 (w5.alloc (.cells #[] 3)) := ⟨by rw [prodTo_zero]; exact own_empty _ _, below_alloc _ _⟩
  have Ho := hide ho
  have Hbw := hide hbw
  clear ho hbw
  go_wp2_with fail
  clear a5_0 a5_1 p5_0 p5_1
  go_loopw [6, 7, 8] (fun v i _ wr => ∃ k : Nat, k ≤ xs.length ∧ i = .int .i64 k ∧ Hid (OwnV 3 wr w5.heap.size v (ints (zs (prodTo (besideN n.toNat) xs ys k 0)))) ∧ Hid (Below w5.heap.size w5 wr)) (fun _ i _ _ => xs.length - (intOf i).toNat)
  case atStart => exact ⟨0, by omega, rfl, Ho, Hbw⟩
  case round =>
    obtain ⟨k, hk, rfl, hown, hb⟩ := hrel
    obtain ⟨a6_0, a6_1⟩ := At1_5.out.to hb.out
    obtain ⟨p6_0, p6_1⟩ := At2_5.out.to hb.out
    by_cases hlt : k < xs.length
    · obtain ⟨b1, o1, x, ⟨c1, hv1⟩, hx, hx64, hcx0⟩ := He1.out k hlt
      cases hv1
      have Hx := hide hx
      clear hx
      go_wp2_with fail
      go_loopw [6, 8] (fun v i wi => ∃ j : Nat, j ≤ ys.length ∧ i = .int .i64 j ∧ Hid (OwnV 3 wi w5.heap.size v (ints (zs (prodTo (besideN n.toNat) xs ys k j)))) ∧ Hid (Below w5.heap.size w5 wi)) (fun _ i _ => ys.length - (intOf i).toNat)
      case atStart => exact ⟨0, by omega, rfl, hown, hb⟩
      case round =>
        obtain ⟨j, hj, rfl, hown2, hb2⟩ := hrel
        obtain ⟨a7_0, a7_1⟩ := At1_5.out.to hb2.out
        obtain ⟨p7_0, p7_1⟩ := At2_5.out.to hb2.out
        by_cases hlt2 : j < ys.length
        · obtain ⟨b2, o2, y, ⟨c2, hv2⟩, hy, hy64, hcy0⟩ := He2.out j hlt2
          cases hv2
          have hcx := (hb2.out.cell (p := ⟨b1, o1 + k, none⟩) (World.block_lt_of_cell? _ _ hcx0)).trans hcx0
          have hcy := (hb2.out.cell (p := ⟨b2, o2 + j, none⟩) (World.block_lt_of_cell? _ _ hcy0)).trans hcy0
          have Hstep := hide (prodTo_step (f := besideN n.toNat) Hx.out hy)
          have Hy := hide hy
          have hlen : (zs (prodTo (besideN n.toNat) xs ys k j)).length < 1000000 := by have h1 := prodTo_len (f := besideN n.toNat) (xs := xs) (ys := ys) (i := k) (k := j); have h2 : (k + 1) * ys.length ≤ 449 * 448 := Nat.mul_le_mul (by have := Hl1.out; omega) Hl2.out; rw [List.length_map]; omega
          obtain ⟨z, hz⟩ : ∃ z, z = y * 2 ^ n.toNat := ⟨_, rfl⟩
          obtain ⟨q, hqq⟩ : ∃ q, q = besideN n.toNat x y := ⟨_, rfl⟩
          have hsz := moved_small hn1 hm1 hq (isCx_bit Hcb.out Hy.out)
          have hsm := beside_small hn1 hm1 hq (isCx_bit Hca.out Hx.out) (isCx_bit Hcb.out Hy.out)
          have hadd := beside_add (y := y) (isCx_bit Hca.out Hx.out)
          rw [← hz] at hsz hadd
          rw [← hqq] at hsm hadd Hstep
          obtain ⟨hz64, hsh⟩ := hsz
          have hsh2 : IntKind.i64.wrap ((y : Int) * 2 ^ n.toNat) = (z : Int) := by have h := hsh; unfold wrap64 at h; rw [IntKind.wrap_i64]; exact h
          have hsum : (x : Int) + (z : Int) = (q : Int) := by omega
          have hsum2 : IntKind.i64.wrap ((x : Int) + (z : Int)) = (q : Int) := by rw [hsum]; exact IntWalk.i64_in _ (by omega)
          have hqw : IntKind.i64.wrap (q : Int) = (q : Int) := IntWalk.i64_in _ (by omega)
          clear hz hqq hadd
          have hbd0 : Below w5.heap.size w5 wr.drew := hb2.out.drew
          have hbd1 : Below w5.heap.size w5 (wr.alloc (.cells #[.int .i64 ((q : Nat) : Int)] 3)).drew := (hb2.out.alloc hb2.out.size _).drew
          have hoa : OwnV 3 (wr.alloc (.cells #[.int .i64 ((q : Nat) : Int)] 3)).drew w5.heap.size _ (ints (zs (prodTo (besideN n.toNat) xs ys k j))) := hown2.out.alloc _
          have hra : IntsAt (wr.alloc (.cells #[.int .i64 ((q : Nat) : Int)] 3)).drew _ (.slice (some ⟨wr.heap.size, 0, none⟩) 1 1) [((q : Nat) : Int)] := reads_new1 wr _ _
          have hza : w5.heap.size ≤ (wr.alloc (.cells #[.int .i64 ((q : Nat) : Int)] 3)).drew.heap.size := hbd1.size
          have hlen2 : (zs (prodTo (besideN n.toNat) xs ys k j)).length + [((q : Nat) : Int)].length < 17179869184 := by show _ + 1 < _; omega
          have hS : Hid (∀ W : World, Below w5.heap.size w5 W → W.cell? ⟨w.heap.size, 0, none⟩ = some (.int .i64 n) ∧ W.cell? ⟨w.heap.size, 1, none⟩ = some (.slice (some ⟨b1, o1, none⟩) xs.length c) ∧ W.cell? ⟨w1.heap.size, 1, none⟩ = some (.slice (some ⟨b2, o2, none⟩) ys.length c') ∧ W.cell? ⟨b1, o1 + k, none⟩ = some (.int .i64 (x : Int)) ∧ W.cell? ⟨b2, o2 + j, none⟩ = some (.int .i64 (y : Int))) := fun W h => ⟨(h.cell (p := ⟨w.heap.size, 0, none⟩) At1_5.out.lt).trans At1_5.out.1, (h.cell (p := ⟨w.heap.size, 1, none⟩) At1_5.out.lt).trans At1_5.out.2, (h.cell (p := ⟨w1.heap.size, 1, none⟩) At2_5.out.lt).trans At2_5.out.2, (h.cell (p := ⟨b1, o1 + k, none⟩) (World.block_lt_of_cell? _ _ hcx0)).trans hcx0, (h.cell (p := ⟨b2, o2 + j, none⟩) (World.block_lt_of_cell? _ _ hcy0)).trans hcy0⟩
          clear hy
          go_wp2_with fail
          go_region_held3 (fun W => W.cell? ⟨w.heap.size, 0, none⟩ = some (.int .i64 n) ∧ W.cell? ⟨w.heap.size, 1, none⟩ = some (.slice (some ⟨b1, o1, none⟩) xs.length c) ∧ W.cell? ⟨w1.heap.size, 1, none⟩ = some (.slice (some ⟨b2, o2, none⟩) ys.length c') ∧ W.cell? ⟨b1, o1 + k, none⟩ = some (.int .i64 (x : Int)) ∧ W.cell? ⟨b2, o2 + j, none⟩ = some (.int .i64 (y : Int))) (first | with_reducible exact hS.out _ hbd0 | with_reducible exact hS.out _ hbd1 | with_reducible exact hS.out _ hbd7 | go_keep) (first | (refine step_appL hoa hra Try.underlying22 infoI rfl _ _ rfl rfl rfl hlen2 hza ?_; intro v7 w7 ho7 hb7; have hbd7 := hbd1.trans hb7))
          have Hown7 : Hid (OwnV 3 w7 w5.heap.size v7 (ints (zs (prodTo (besideN n.toNat) xs ys k (j + 1))))) := by show OwnV _ _ _ _ _; rw [Hstep.out, zs_snoc]; exact ho7
          have Hb7 : Hid (Below w5.heap.size w5 w7) := hbd7
          go_wp2
          go_roundw
          case rel => exact ⟨j + 1, by omega, by go_num, Hown7, Hb7⟩
          case measure => simp [intOf]; omega
        · have hj2 : ys.length ≤ j := by omega
          have Hn := hide (prodTo_next (f := besideN n.toNat) Hx.out hj2)
          have ho3 := hown2.out
          rw [← Hn.out] at ho3
          have Ho3 := hide ho3
          clear ho3 hown2
          go_wp2
          go_roundw
          case rel => exact ⟨k + 1, by omega, by go_num, Ho3, hb2⟩
          case measure => simp [intOf]; omega
    · have hk2 : xs.length ≤ k := by omega
      have ho3 := hown.out
      rw [prodTo_all hk2] at ho3
      have Ho3 := hide ho3
      have Rs6 := hide (Rs3_5.out.to hb.out)
      have B6 := hide (nxt B5.out hb.out)
      clear ho3 hown
      go_wp2_with fail
      refine (l3MakeS (n + m) _ _ wr (own_reads Ho3.out) Hlz.out Hall.out).mono ?_
      rintro e w9 ⟨v9, rfl, o9, b9⟩
      rw [Hmax.out] at o9
      obtain ⟨A9, c9, rfl⟩ := own_shape o9
      obtain ⟨⟨q0, q1, h90, h91⟩, f90, f91⟩ := Rs6.out.to b9
      have h9r := (Rs6.out.to b9).lt
      have hRs := Rs6.out
      have hBs := B6.out
      have Hfar := hide (fun j hj => Nat.lt_of_lt_of_le hRs.lt (own_block o9 j hj).1)
      have Ho := hide (own_mono o9 hBs.size)
      have Hb := hide (nxt hBs b9)
      clear o9 b9 hRs hBs
      go_wp2
      refine bodyPost_ret (v := .tuple #[.agg #[.int .i64 (n + m), .slice A9 (zs (maxOf (faceP (zs (joinL n xs ys))))).length c9], .bool true]) (by simp [results, Try.results29, go_sem, h90, h91]) rfl ?_
      refine retCB_yes Hok.out (own_setNe (own_setNe Ho.out (fun j hj => by have := Hfar.out j hj; omega) _ _) (fun j hj => by have := Hfar.out j hj; omega) _ _) (below_store Hb.out Hle.out _ _)

theorem disjointOfS (n : Int) (v : Value) (xs : List Int) (m : Int) (u : Value) (ys : List Int) (w : World) (h : IntsAt w w.heap.size v xs) (k : IntsAt w w.heap.size u ys) (hl : xs.length ≤ 1048576) (kl : ys.length ≤ 1048576) :
    Calls Try.prog 31 #[.agg #[.int .i64 n, v], .agg #[.int .i64 m, u]] w fun e w' => RetCB 3 w (cbN (joinOk n m xs ys) (n + m)) (cbXs (joinOk n m xs ys) (maxOf (faceP (disL n xs ys)))) (joinOk n m xs ys) e w' := by
  obtain ⟨A, c, rfl⟩ := reads_shape h
  obtain ⟨A', c', rfl⟩ := reads_shape k
  obtain ⟨w1, hW1, at1, b1, z1⟩ := boxC w (.int .i64 n) (.slice A xs.length c) 27
  obtain ⟨w2, hW2, at2, b2, z2⟩ := boxC w1 (.int .i64 m) (.slice A' ys.length c') 27
  obtain ⟨w3, hW3, at3, rs3, b3, z3⟩ := boxRes w2 27
  have b02 := nxt b1 b2
  have b03 := nxt b02 b3
  have R3 := hide (now_ h b03)
  have K3 := hide (now_ k b03)
  have at1 := (at1.to b2).to b3
  have at2 := at2.to b3
  have At1 := hide at1
  have At2 := hide at2
  have At3 := hide at3
  have Rs3 := hide rs3
  have B3 := hide b03
  have Hle : Hid (w.heap.size ≤ w2.heap.size) := by show _ ≤ _; omega
  have Hne1 : Hid (w.heap.size ≠ w2.heap.size) := by show _ ≠ _; omega
  have Hne2 : Hid (w1.heap.size ≠ w2.heap.size) := by show _ ≠ _; omega
  obtain ⟨e1_0, e1_1⟩ := at1
  obtain ⟨e2_0, e2_1⟩ := at2
  obtain ⟨e3_0, e3_1⟩ := at3
  clear h k b1 b2 b3 b02 b03 z1 z2 z3 rs3
  by_cases hok : joinOk n m xs ys = false
  · have Hok := hide hok
    clear hok
    go_enter Try.func31, Try.ntmps31
    go_wp2_with fail
    clear hW1 hW2 hW3
    refine (l6FitS n _ xs m _ ys w3 R3.out K3.out hl kl).mono ?_
    rw [Hok.out]
    rintro e w4 ⟨rfl, b4⟩
    obtain ⟨q4_0, q4_1⟩ := At3.out.to b4
    obtain ⟨_, f40, f41⟩ := (Rs3.out).to b4
    have hr4 : w2.heap.size < w4.heap.size := ((Rs3.out).to b4).lt
    have B4 := hide (nxt B3.out b4)
    clear b4 e1_0 e1_1 e2_0 e2_1 e3_0 e3_1
    go_wp2
    refine bodyPost_ret (v := .tuple #[.agg #[.int .i64 0, .slice none 0 0], .bool false]) (by simp [results, Try.results31, go_sem, q4_0, q4_1]) rfl ?_
    exact retCB_no Hok.out (below_store B4.out Hle.out _ _)
  have hok : joinOk n m xs ys = true := by simpa using hok
  have Hok := hide hok
  obtain ⟨hca, hcb, hq⟩ := joinOk_yes hok
  have Hca := hide hca
  have Hcb := hide hcb
  obtain ⟨hn1, hn6⟩ := (isCx_inv hca).1
  obtain ⟨hm1, hm6⟩ := (isCx_inv hcb).1
  clear hok hca hcb
  have Hmax := hide (dis_max Hca.out Hcb.out hq)
  have Hall := hide (dis_all Hca.out Hcb.out hq)
  have Hlz : Hid ((disL n xs ys).length ≤ 1073741824) := by show _ ≤ _; rw [dis_len]; omega
  have hu : IntKind.u64.wrap n = n := IntWalk.u64_in _ (by omega)
  have hmin : min n.toNat 64 = n.toNat := by omega
  go_enter Try.func31, Try.ntmps31
  go_wp2_with fail
  clear hW1 hW2 hW3
  refine (l6FitS n _ xs m _ ys w3 R3.out K3.out hl kl).mono ?_
  rw [Hok.out]
  rintro e w5 ⟨rfl, b5⟩
  obtain ⟨a5_0, a5_1⟩ := At1.out.to b5
  obtain ⟨p5_0, p5_1⟩ := At2.out.to b5
  have R5 := hide (now_ R3.out b5)
  have K5 := hide (now_ K3.out b5)
  have At1_5 := hide (At1.out.to b5)
  have At2_5 := hide (At2.out.to b5)
  have Rs3_5 := hide (Rs3.out.to b5)
  have B5 := hide (nxt B3.out b5)
  clear b5 e1_0 e1_1 e2_0 e2_1 e3_0 e3_1
  have He2 := hide (cxElems K5.out Hcb.out)
  have hr0 : IntsAt (w5.alloc (.cells #[] 3)) (w5.alloc (.cells #[] 3)).heap.size (.slice A xs.length c) xs := now_ R5.out (below_alloc _ _)
  have ho0 : OwnV 3 (w5.alloc (.cells #[] 3)) w5.heap.size (.slice (some ⟨w5.heap.size, 0, none⟩) 0 0) (ints []) := own_empty _ _
  have hlen0 : ([] : List Int).length + xs.length < 17179869184 := by show 0 + xs.length < _; omega
  have hz0 : w5.heap.size ≤ (w5.alloc (.cells #[] 3)).heap.size := (below_alloc w5 _).size
  obtain ⟨x5_0, x5_1⟩ := At1_5.out.to (below_alloc w5 (.cells #[] 3))
  go_wp2_with (at_builtin; refine wpList_appL ho0 hr0 Try.underlying22 infoI rfl _ _ rfl rfl rfl hlen0 hz0 ?_; intro v6 w6 ho6 hb6 _)
  have Hbw : Hid (Below w5.heap.size w5 w6) := (below_alloc w5 _).trans hb6
  have Ho : Hid (OwnV 3 w6 w5.heap.size v6 (ints (disL n xs (ys.take 0)))) := by show OwnV _ _ _ _ _; rw [List.take_zero, disL_nil]; exact ho6
  clear ho0 hr0 hz0 ho6 hb6 a5_0 a5_1 p5_0 p5_1 x5_0 x5_1
  go_wp2_with fail
  go_loopw [6, 7] (fun v i wr => ∃ k : Nat, k ≤ ys.length ∧ i = .int .i64 k ∧ Hid (OwnV 3 wr w5.heap.size v (ints (disL n xs (ys.take k)))) ∧ Hid (Below w5.heap.size w5 wr)) (fun _ i _ => ys.length - (intOf i).toNat)
  case atStart => exact ⟨0, by omega, rfl, Ho, Hbw⟩
  case round =>
    obtain ⟨k, hk, rfl, hown, hb⟩ := hrel
    obtain ⟨a6_0, a6_1⟩ := At1_5.out.to hb.out
    obtain ⟨p6_0, p6_1⟩ := At2_5.out.to hb.out
    by_cases hlt : k < ys.length
    · obtain ⟨b2, o2, y, ⟨c2, hv2⟩, hy, hy64, hcy0⟩ := He2.out k hlt
      cases hv2
      obtain ⟨z, hz⟩ : ∃ z, z = y * 2 ^ n.toNat := ⟨_, rfl⟩
      have hsz := moved_small hn1 hm1 hq (isCx_bit Hcb.out hy)
      rw [← hz] at hsz
      obtain ⟨hz64, hsh⟩ := hsz
      have hsh2 : IntKind.i64.wrap ((y : Int) * 2 ^ n.toNat) = (z : Int) := by have h := hsh; unfold wrap64 at h; rw [IntKind.wrap_i64]; exact h
      have Hstep : Hid (disL n xs (ys.take (k + 1)) = disL n xs (ys.take k) ++ [(z : Int)]) := by show _ = _; rw [take_snoc _ _ _ hy, disL_snoc, hz]
      have hlen : (disL n xs (ys.take k)).length < 1000000000 := by rw [dis_len, List.length_take]; omega
      have hbd0 : Below w5.heap.size w5 wr.drew := hb.out.drew
      have hbd1 : Below w5.heap.size w5 (wr.alloc (.cells #[.int .i64 (z : Int)] 3)).drew := (hb.out.alloc hb.out.size _).drew
      have hoa : OwnV 3 (wr.alloc (.cells #[.int .i64 (z : Int)] 3)).drew w5.heap.size _ (ints (disL n xs (ys.take k))) := hown.out.alloc _
      have hra : IntsAt (wr.alloc (.cells #[.int .i64 (z : Int)] 3)).drew _ (.slice (some ⟨wr.heap.size, 0, none⟩) 1 1) [(z : Int)] := reads_new1 wr _ _
      have hza : w5.heap.size ≤ (wr.alloc (.cells #[.int .i64 (z : Int)] 3)).drew.heap.size := hbd1.size
      have hlen2 : (disL n xs (ys.take k)).length + [(z : Int)].length < 17179869184 := by show _ + 1 < _; omega
      have hS : Hid (∀ W : World, Below w5.heap.size w5 W → W.cell? ⟨w.heap.size, 0, none⟩ = some (.int .i64 n) ∧ W.cell? ⟨w1.heap.size, 1, none⟩ = some (.slice (some ⟨b2, o2, none⟩) ys.length c') ∧ W.cell? ⟨b2, o2 + k, none⟩ = some (.int .i64 (y : Int))) := fun W h => ⟨(h.cell (p := ⟨w.heap.size, 0, none⟩) At1_5.out.lt).trans At1_5.out.1, (h.cell (p := ⟨w1.heap.size, 1, none⟩) At2_5.out.lt).trans At2_5.out.2, (h.cell (p := ⟨b2, o2 + k, none⟩) (World.block_lt_of_cell? _ _ hcy0)).trans hcy0⟩
      clear hy hz
      go_wp2_with fail
      go_region_held3 (fun W => W.cell? ⟨w.heap.size, 0, none⟩ = some (.int .i64 n) ∧ W.cell? ⟨w1.heap.size, 1, none⟩ = some (.slice (some ⟨b2, o2, none⟩) ys.length c') ∧ W.cell? ⟨b2, o2 + k, none⟩ = some (.int .i64 (y : Int))) (first | with_reducible exact hS.out _ hbd0 | with_reducible exact hS.out _ hbd1 | with_reducible exact hS.out _ hbd7 | go_keep) (first | (refine step_appL hoa hra Try.underlying22 infoI rfl _ _ rfl rfl rfl hlen2 hza ?_; intro v7 w7 ho7 hb7; have hbd7 := hbd1.trans hb7))
      have Hown7 : Hid (OwnV 3 w7 w5.heap.size v7 (ints (disL n xs (ys.take (k + 1))))) := by show OwnV _ _ _ _ _; rw [Hstep.out]; exact ho7
      have Hb7 : Hid (Below w5.heap.size w5 w7) := hbd7
      go_wp2
      go_roundw
      case rel => exact ⟨k + 1, by omega, by go_num, Hown7, Hb7⟩
      case measure => simp [intOf]; omega
    · have hk2 : ys.length ≤ k := by omega
      have ho3 := hown.out
      rw [take_all ys k hk2] at ho3
      have Ho3 := hide ho3
      have Rs6 := hide (Rs3_5.out.to hb.out)
      have B6 := hide (nxt B5.out hb.out)
      clear ho3 hown
      go_wp2_with fail
      refine (l3MakeS (n + m) _ _ wr (own_reads Ho3.out) Hlz.out Hall.out).mono ?_
      rintro e w9 ⟨v9, rfl, o9, b9⟩
      rw [Hmax.out] at o9
      obtain ⟨A9, c9, rfl⟩ := own_shape o9
      obtain ⟨⟨q0, q1, h90, h91⟩, f90, f91⟩ := Rs6.out.to b9
      have h9r := (Rs6.out.to b9).lt
      have hRs := Rs6.out
      have hBs := B6.out
      have Hfar := hide (fun j hj => Nat.lt_of_lt_of_le hRs.lt (own_block o9 j hj).1)
      have Ho := hide (own_mono o9 hBs.size)
      have Hb := hide (nxt hBs b9)
      clear o9 b9 hRs hBs
      go_wp2
      refine bodyPost_ret (v := .tuple #[.agg #[.int .i64 (n + m), .slice A9 (zs (maxOf (faceP (disL n xs ys)))).length c9], .bool true]) (by simp [results, Try.results31, go_sem, h90, h91]) rfl ?_
      refine retCB_yes Hok.out (own_setNe (own_setNe Ho.out (fun j hj => by have := Hfar.out j hj; omega) _ _) (fun j hj => by have := Hfar.out j hj; omega) _ _) (below_store Hb.out Hle.out _ _)
end Go.Proofs.Ytmkacjpjcfffmab
