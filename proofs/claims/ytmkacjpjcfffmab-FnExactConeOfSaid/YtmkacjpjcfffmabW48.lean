/- Walks: JoinOf, DisjointOf in the program. Printed by gen/w48.py. -/
import Derived.Test.YtmkacjpjcfffmabW47
namespace Go.Proofs.Ytmkacjpjcfffmab
open Go.RowKit

theorem cast_pow2 (y k : Nat) : ((y : Int) * 2 ^ k) = ((y * 2 ^ k : Nat) : Int) := by
  rw [Int.natCast_mul, Int.natCast_pow]
  rfl
theorem moved_small {n m : Int} {y : Nat} (hn : 1 ≤ n) (hm : 1 ≤ m) (hs : n + m ≤ 6) (hy : y < 2 ^ m.toNat) : y * 2 ^ n.toNat < 64 ∧ wrap64 ((y : Int) * 2 ^ n.toNat) = ((y * 2 ^ n.toNat : Nat) : Int) := by
  have h := shift_lt (n := n.toNat) hy (by omega)
  refine ⟨h, ?_⟩
  rw [cast_pow2]
  exact IntWalk.wrap64_in _ (by omega)
theorem beside_bits {n m : Int} {x y : Nat} (hn : 1 ≤ n) (hm : 1 ≤ m) (hs : n + m ≤ 6) (hx : x < 64) (hy : y < 2 ^ m.toNat) : bits BinOp.or IntKind.i64 (x : Int) (wrap64 ((y : Int) * 2 ^ n.toNat)) = ((besideN n.toNat x y : Nat) : Int) := by
  obtain ⟨h1, h2⟩ := moved_small hn hm hs hy
  rw [h2, i64_or _ _ (by omega) (by omega)]
  unfold besideN
  rw [Nat.shiftLeft_eq]
theorem beside_small {n m : Int} {x y : Nat} (hn : 1 ≤ n) (hm : 1 ≤ m) (hs : n + m ≤ 6) (hx : x < 2 ^ n.toNat) (hy : y < 2 ^ m.toNat) : besideN n.toNat x y < 64 := beside_lt hx hy (by omega)

theorem joinOfI (n : Int) (v : Value) (xs : List Int) (m : Int) (u : Value) (ys : List Int) (w : World) (h : IntsAt w w.heap.size v xs) (k : IntsAt w w.heap.size u ys) (hl : xs.length ≤ 1048576) (kl : ys.length ≤ 1048576) :
    Calls Try.prog 30 #[.agg #[.int .i64 n, v], .agg #[.int .i64 m, u]] w fun e w' => RetCB 3 w (cbN (joinOk n m xs ys) (n + m)) (cbXs (joinOk n m xs ys) (maxOf (faceP (zs (joinL n xs ys))))) (joinOk n m xs ys) e w' := by
  obtain ⟨A, c, rfl⟩ := reads_shape h
  obtain ⟨A', c', rfl⟩ := reads_shape k
  obtain ⟨w1, hW1, at1, b1, z1⟩ := boxC w (.int .i64 n) (.slice A xs.length c) 27
  obtain ⟨w2, hW2, at2, b2, z2⟩ := boxC w1 (.int .i64 m) (.slice A' ys.length c') 27
  obtain ⟨w3, hW3, at3, rs3, b3, z3⟩ := boxRes w2 27
  have b02 := nxt b1 b2
  have b03 := nxt b02 b3
  have R3 := hide (now_ h b03)
  have K3 := hide (now_ k b03)
  have at1 := (at1.to b2).to b3
  have at2 := at2.to b3
  have At1 := hide at1
  have At2 := hide at2
  have At3 := hide at3
  have Rs3 := hide rs3
  have B3 := hide b03
  have Hle : Hid (w.heap.size ≤ w2.heap.size) := by show _ ≤ _; omega
  have Hne1 : Hid (w.heap.size ≠ w2.heap.size) := by show _ ≠ _; omega
  have Hne2 : Hid (w1.heap.size ≠ w2.heap.size) := by show _ ≠ _; omega
  obtain ⟨e1_0, e1_1⟩ := at1
  obtain ⟨e2_0, e2_1⟩ := at2
  obtain ⟨e3_0, e3_1⟩ := at3
  clear h k b1 b2 b3 b02 b03 z1 z2 z3 rs3
  cases hca : isCx n xs
  · have Hca := hide hca
    have Hok : Hid (joinOk n m xs ys = false) := by show _ = _; unfold joinOk; rw [hca]; rfl
    clear hca
    go_enter Try.func30, Try.ntmps30
    go_wp2_with fail
    clear hW1 hW2 hW3
    refine (isComplexI n _ xs w3 R3.out (by omega)).mono ?_
    rw [Hca.out]
    rintro e w4 ⟨rfl, b4⟩
    obtain ⟨q4_0, q4_1⟩ := At3.out.to b4
    obtain ⟨_, f40, f41⟩ := (Rs3.out).to b4
    have hr4 : w2.heap.size < w4.heap.size := ((Rs3.out).to b4).lt
    have B4 := hide (nxt B3.out b4)
    clear b4 e1_0 e1_1 e2_0 e2_1 e3_0 e3_1
    go_wp2
    refine bodyPost_ret (v := .tuple #[.agg #[.int .i64 0, .slice none 0 0], .bool false]) (by simp [results, Try.results30, go_sem, q4_0, q4_1]) rfl ?_
    exact retCB_no Hok.out (below_store B4.out Hle.out _ _)
  have Hca := hide hca
  cases hcb : isCx m ys
  · have Hcb := hide hcb
    have Hok : Hid (joinOk n m xs ys = false) := by show _ = _; unfold joinOk; rw [hca, hcb]; rfl
    clear hca hcb
    go_enter Try.func30, Try.ntmps30
    go_wp2_with fail
    clear hW1 hW2 hW3
    refine (isComplexI n _ xs w3 R3.out (by omega)).mono ?_
    rw [Hca.out]
    rintro e w4 ⟨rfl, b4⟩
    have R4 := hide (now_ R3.out b4)
    have K4 := hide (now_ K3.out b4)
    have At1_4 := hide (At1.out.to b4)
    have At2_4 := hide (At2.out.to b4)
    have At3_4 := hide (At3.out.to b4)
    have Rs3_4 := hide (Rs3.out.to b4)
    have B4 := hide (nxt B3.out b4)
    obtain ⟨p4_0, p4_1⟩ := At2_4.out
    clear b4 e1_0 e1_1 e2_0 e2_1 e3_0 e3_1
    go_wp2_with fail
    refine (isComplexI m _ ys w4 K4.out (by omega)).mono ?_
    rw [Hcb.out]
    rintro e w5 ⟨rfl, b5⟩
    obtain ⟨q5_0, q5_1⟩ := At3_4.out.to b5
    obtain ⟨_, f50, f51⟩ := (Rs3_4.out).to b5
    have hr5 : w2.heap.size < w5.heap.size := ((Rs3_4.out).to b5).lt
    have B5 := hide (nxt B4.out b5)
    clear b5 p4_0 p4_1
    go_wp2
    refine bodyPost_ret (v := .tuple #[.agg #[.int .i64 0, .slice none 0 0], .bool false]) (by simp [results, Try.results30, go_sem, q5_0, q5_1]) rfl ?_
    exact retCB_no Hok.out (below_store B5.out Hle.out _ _)
  have Hcb := hide hcb
  by_cases hnm : ¬ (n + m ≤ 6)
  · skip
    have Hok : Hid (joinOk n m xs ys = false) := by show _ = _; unfold joinOk; rw [hca, hcb, decide_eq_false hnm]; rfl
    obtain ⟨hn1, hn6⟩ := (isCx_inv hca).1
    obtain ⟨hm1, hm6⟩ := (isCx_inv hcb).1
    have hq : 6 < n + m := by omega
    clear hca hcb hnm
    go_enter Try.func30, Try.ntmps30
    go_wp2_with fail
    clear hW1 hW2 hW3
    refine (isComplexI n _ xs w3 R3.out (by omega)).mono ?_
    rw [Hca.out]
    rintro e w4 ⟨rfl, b4⟩
    have R4 := hide (now_ R3.out b4)
    have K4 := hide (now_ K3.out b4)
    have At1_4 := hide (At1.out.to b4)
    have At2_4 := hide (At2.out.to b4)
    have At3_4 := hide (At3.out.to b4)
    have Rs3_4 := hide (Rs3.out.to b4)
    have B4 := hide (nxt B3.out b4)
    obtain ⟨p4_0, p4_1⟩ := At2_4.out
    clear b4 e1_0 e1_1 e2_0 e2_1 e3_0 e3_1
    go_wp2_with fail
    refine (isComplexI m _ ys w4 K4.out (by omega)).mono ?_
    rw [Hcb.out]
    rintro e w5 ⟨rfl, b5⟩
    obtain ⟨q5_0, q5_1⟩ := At3_4.out.to b5
    obtain ⟨_, f50, f51⟩ := (Rs3_4.out).to b5
    have hr5 : w2.heap.size < w5.heap.size := ((Rs3_4.out).to b5).lt
    obtain ⟨a5_0, a5_1⟩ := At1_4.out.to b5
    obtain ⟨p5_0, p5_1⟩ := At2_4.out.to b5
    have B5 := hide (nxt B4.out b5)
    clear b5 p4_0 p4_1
    go_wp2
    refine bodyPost_ret (v := .tuple #[.agg #[.int .i64 0, .slice none 0 0], .bool false]) (by simp [results, Try.results30, go_sem, q5_0, q5_1]) rfl ?_
    exact retCB_no Hok.out (below_store B5.out Hle.out _ _)
  have hnm := Decidable.not_not.1 hnm
  have Hok : Hid (joinOk n m xs ys = true) := by show _ = _; unfold joinOk; rw [hca, hcb, decide_eq_true hnm]; rfl
  obtain ⟨hn1, hn6⟩ := (isCx_inv hca).1
  obtain ⟨hm1, hm6⟩ := (isCx_inv hcb).1
  have hq : n + m ≤ 6 := hnm
  have Hnm := hide hnm
  clear hca hcb hnm
  go_enter Try.func30, Try.ntmps30
  go_wp2_with fail
  clear hW1 hW2 hW3
  refine (isComplexI n _ xs w3 R3.out (by omega)).mono ?_
  rw [Hca.out]
  rintro e w4 ⟨rfl, b4⟩
  have R4 := hide (now_ R3.out b4)
  have K4 := hide (now_ K3.out b4)
  have At1_4 := hide (At1.out.to b4)
  have At2_4 := hide (At2.out.to b4)
  have At3_4 := hide (At3.out.to b4)
  have Rs3_4 := hide (Rs3.out.to b4)
  have B4 := hide (nxt B3.out b4)
  obtain ⟨p4_0, p4_1⟩ := At2_4.out
  clear b4 e1_0 e1_1 e2_0 e2_1 e3_0 e3_1
  go_wp2_with fail
  refine (isComplexI m _ ys w4 K4.out (by omega)).mono ?_
  rw [Hcb.out]
  rintro e w5 ⟨rfl, b5⟩
  obtain ⟨a5_0, a5_1⟩ := At1_4.out.to b5
  obtain ⟨p5_0, p5_1⟩ := At2_4.out.to b5
  have R5 := hide (now_ R4.out b5)
  have K5 := hide (now_ K4.out b5)
  have At1_5 := hide (At1_4.out.to b5)
  have At2_5 := hide (At2_4.out.to b5)
  have Rs3_5 := hide (Rs3_4.out.to b5)
  have B5 := hide (nxt B4.out b5)
  clear b5 p4_0 p4_1
  have He1 := hide (cxElems R5.out Hca.out)
  have He2 := hide (cxElems K5.out Hcb.out)
  go_wp2_with fail
  go_loop [6, 8, 10, 31, 38] (fun a _ _ i _ => ∃ k : Nat, k ≤ xs.length ∧ i = .int .i64 k ∧ a = .int .u64 (fam (faceP (zs (prodTo (besideN n.toNat) xs ys k 0))) : Int)) (fun _ _ _ i _ => xs.length - (intOf i).toNat)
  case atStart => exact ⟨0, by omega, rfl, by rw [prodTo_zero]; show Value.int .u64 0 = .int .u64 (fam (faceP []) : Int); rw [faceP_nil, fam_zero]; rfl⟩
  case round =>
    obtain ⟨k, hk, rfl, rfl⟩ := hrel
    by_cases hlt : k < xs.length
    · obtain ⟨b1, o1, x, ⟨c1, hv1⟩, hx, hx64, hcx⟩ := He1.out k hlt
      cases hv1
      have Hx := hide hx
      have hxn := isCx_bit Hca.out hx
      clear hx
      go_wp2_with fail
      go_loop [6, 10, 38] (fun a _ i => ∃ j : Nat, j ≤ ys.length ∧ i = .int .i64 j ∧ a = .int .u64 (fam (faceP (zs (prodTo (besideN n.toNat) xs ys k j))) : Int)) (fun _ _ i => ys.length - (intOf i).toNat)
      case atStart => exact ⟨0, by omega, rfl, rfl⟩
      case round =>
        obtain ⟨j, hj, rfl, rfl⟩ := hrel
        by_cases hlt2 : j < ys.length
        · obtain ⟨b2, o2, y, ⟨c2, hv2⟩, hy, hy64, hcy⟩ := He2.out j hlt2
          cases hv2
          have Hstep := hide (prodTo_step (f := besideN n.toNat) Hx.out hy)
          have hyn := isCx_bit Hcb.out hy
          clear hy
          have hbb := beside_bits hn1 hm1 hq hx64 hyn
          have hbl := beside_small hn1 hm1 hq hxn hyn
          have ho := or_fams (faceP (zs (prodTo (besideN n.toNat) xs ys k j))) (fun u => sub u (besideN n.toNat x y))
          have Ht : Hid (fam (faceP (zs (prodTo (besideN n.toNat) xs ys k (j + 1)))) = fam (fun u => faceP (zs (prodTo (besideN n.toNat) xs ys k j)) u || sub u (besideN n.toNat x y))) := by show _ = _; rw [Hstep.out, zs_snoc]; congr 1; funext u; rw [faceP_snoc]; rfl
          clear hxn hyn
          go_wp2_with (go_at_call 47; (try rw [hbb]); refine (subsetFamilyI _ hbl _).mono ?_; rintro e wx ⟨rfl, rfl⟩)
          go_round
          case rel => exact ⟨j + 1, by omega, by go_num, by rw [Ht.out]⟩
          case measure => simp [intOf]; omega
        · have hj2 : ys.length ≤ j := by omega
          have Hn := hide (prodTo_next (f := besideN n.toNat) Hx.out hj2)
          go_wp2
          go_round
          case rel => exact ⟨k + 1, by omega, by go_num, by rw [Hn.out]⟩
          case measure => simp [intOf]; omega
    · have hk2 : xs.length ≤ k := by omega
      have Hall2 : Hid (fam (faceP (zs (prodTo (besideN n.toNat) xs ys k 0))) = fam (faceP (zs (joinL n xs ys)))) := by show _ = _; rw [prodTo_all hk2]; rfl
      rw [Hall2.out]
      go_wp2_with fail
      refine (complexOfI (n + m) (faceP (zs (joinL n xs ys))) _).mono ?_
      rintro e w9 ⟨v9, rfl, o9, b9⟩
      obtain ⟨A9, c9, rfl⟩ := own_shape o9
      obtain ⟨⟨q0, q1, h90, h91⟩, f90, f91⟩ := Rs3_5.out.to b9
      have h9r := (Rs3_5.out.to b9).lt
      have hRs := Rs3_5.out
      have hBs := B5.out
      have Hfar := hide (fun j hj => Nat.lt_of_lt_of_le hRs.lt (own_block o9 j hj).1)
      have Ho := hide (own_mono o9 hBs.size)
      have Hb := hide (nxt hBs b9)
      clear o9 b9 hRs hBs
      go_wp2
      refine bodyPost_ret (v := .tuple #[.agg #[.int .i64 (n + m), .slice A9 (zs (maxOf (faceP (zs (joinL n xs ys))))).length c9], .bool true]) (by simp [results, Try.results30, go_sem, h90, h91]) rfl ?_
      refine retCB_yes Hok.out (own_setNe (own_setNe Ho.out (fun j hj => by have := Hfar.out j hj; omega) _ _) (fun j hj => by have := Hfar.out j hj; omega) _ _) (below_store Hb.out Hle.out _ _)

theorem disL_snoc (n : Int) (xs ys : List Int) (y : Nat) : disL n xs (ys ++ [(y : Int)]) = disL n xs ys ++ [((y * 2 ^ n.toNat : Nat) : Int)] := by
  unfold disL moveL
  rw [List.map_append, zs_append, List.append_assoc]
  rfl
theorem disL_nil (n : Int) (xs : List Int) : disL n xs [] = xs := by
  unfold disL moveL
  simp

theorem disjointOfI (n : Int) (v : Value) (xs : List Int) (m : Int) (u : Value) (ys : List Int) (w : World) (h : IntsAt w w.heap.size v xs) (k : IntsAt w w.heap.size u ys) (hl : xs.length ≤ 1048576) (kl : ys.length ≤ 1048576) :
    Calls Try.prog 32 #[.agg #[.int .i64 n, v], .agg #[.int .i64 m, u]] w fun e w' => RetCB 3 w (cbN (joinOk n m xs ys) (n + m)) (cbXs (joinOk n m xs ys) (maxOf (faceP (disL n xs ys)))) (joinOk n m xs ys) e w' := by
  obtain ⟨A, c, rfl⟩ := reads_shape h
  obtain ⟨A', c', rfl⟩ := reads_shape k
  obtain ⟨w1, hW1, at1, b1, z1⟩ := boxC w (.int .i64 n) (.slice A xs.length c) 27
  obtain ⟨w2, hW2, at2, b2, z2⟩ := boxC w1 (.int .i64 m) (.slice A' ys.length c') 27
  obtain ⟨w3, hW3, at3, rs3, b3, z3⟩ := boxRes w2 27
  have b02 := nxt b1 b2
  have b03 := nxt b02 b3
  have R3 := hide (now_ h b03)
  have K3 := hide (now_ k b03)
  have at1 := (at1.to b2).to b3
  have at2 := at2.to b3
  have At1 := hide at1
  have At2 := hide at2
  have At3 := hide at3
  have Rs3 := hide rs3
  have B3 := hide b03
  have Hle : Hid (w.heap.size ≤ w2.heap.size) := by show _ ≤ _; omega
  have Hne1 : Hid (w.heap.size ≠ w2.heap.size) := by show _ ≠ _; omega
  have Hne2 : Hid (w1.heap.size ≠ w2.heap.size) := by show _ ≠ _; omega
  obtain ⟨e1_0, e1_1⟩ := at1
  obtain ⟨e2_0, e2_1⟩ := at2
  obtain ⟨e3_0, e3_1⟩ := at3
  clear h k b1 b2 b3 b02 b03 z1 z2 z3 rs3
  cases hca : isCx n xs
  · have Hca := hide hca
    have Hok : Hid (joinOk n m xs ys = false) := by show _ = _; unfold joinOk; rw [hca]; rfl
    clear hca
    go_enter Try.func32, Try.ntmps32
    go_wp2_with fail
    clear hW1 hW2 hW3
    refine (isComplexI n _ xs w3 R3.out (by omega)).mono ?_
    rw [Hca.out]
    rintro e w4 ⟨rfl, b4⟩
    obtain ⟨q4_0, q4_1⟩ := At3.out.to b4
    obtain ⟨_, f40, f41⟩ := (Rs3.out).to b4
    have hr4 : w2.heap.size < w4.heap.size := ((Rs3.out).to b4).lt
    have B4 := hide (nxt B3.out b4)
    clear b4 e1_0 e1_1 e2_0 e2_1 e3_0 e3_1
    go_wp2
    refine bodyPost_ret (v := .tuple #[.agg #[.int .i64 0, .slice none 0 0], .bool false]) (by simp [results, Try.results32, go_sem, q4_0, q4_1]) rfl ?_
    exact retCB_no Hok.out (below_store B4.out Hle.out _ _)
  have Hca := hide hca
  cases hcb : isCx m ys
  · have Hcb := hide hcb
    have Hok : Hid (joinOk n m xs ys = false) := by show _ = _; unfold joinOk; rw [hca, hcb]; rfl
    clear hca hcb
    go_enter Try.func32, Try.ntmps32
    go_wp2_with fail
    clear hW1 hW2 hW3
    refine (isComplexI n _ xs w3 R3.out (by omega)).mono ?_
    rw [Hca.out]
    rintro e w4 ⟨rfl, b4⟩
    have R4 := hide (now_ R3.out b4)
    have K4 := hide (now_ K3.out b4)
    have At1_4 := hide (At1.out.to b4)
    have At2_4 := hide (At2.out.to b4)
    have At3_4 := hide (At3.out.to b4)
    have Rs3_4 := hide (Rs3.out.to b4)
    have B4 := hide (nxt B3.out b4)
    obtain ⟨p4_0, p4_1⟩ := At2_4.out
    clear b4 e1_0 e1_1 e2_0 e2_1 e3_0 e3_1
    go_wp2_with fail
    refine (isComplexI m _ ys w4 K4.out (by omega)).mono ?_
    rw [Hcb.out]
    rintro e w5 ⟨rfl, b5⟩
    obtain ⟨q5_0, q5_1⟩ := At3_4.out.to b5
    obtain ⟨_, f50, f51⟩ := (Rs3_4.out).to b5
    have hr5 : w2.heap.size < w5.heap.size := ((Rs3_4.out).to b5).lt
    have B5 := hide (nxt B4.out b5)
    clear b5 p4_0 p4_1
    go_wp2
    refine bodyPost_ret (v := .tuple #[.agg #[.int .i64 0, .slice none 0 0], .bool false]) (by simp [results, Try.results32, go_sem, q5_0, q5_1]) rfl ?_
    exact retCB_no Hok.out (below_store B5.out Hle.out _ _)
  have Hcb := hide hcb
  by_cases hnm : ¬ (n + m ≤ 6)
  · skip
    have Hok : Hid (joinOk n m xs ys = false) := by show _ = _; unfold joinOk; rw [hca, hcb, decide_eq_false hnm]; rfl
    obtain ⟨hn1, hn6⟩ := (isCx_inv hca).1
    obtain ⟨hm1, hm6⟩ := (isCx_inv hcb).1
    have hq : 6 < n + m := by omega
    clear hca hcb hnm
    go_enter Try.func32, Try.ntmps32
    go_wp2_with fail
    clear hW1 hW2 hW3
    refine (isComplexI n _ xs w3 R3.out (by omega)).mono ?_
    rw [Hca.out]
    rintro e w4 ⟨rfl, b4⟩
    have R4 := hide (now_ R3.out b4)
    have K4 := hide (now_ K3.out b4)
    have At1_4 := hide (At1.out.to b4)
    have At2_4 := hide (At2.out.to b4)
    have At3_4 := hide (At3.out.to b4)
    have Rs3_4 := hide (Rs3.out.to b4)
    have B4 := hide (nxt B3.out b4)
    obtain ⟨p4_0, p4_1⟩ := At2_4.out
    clear b4 e1_0 e1_1 e2_0 e2_1 e3_0 e3_1
    go_wp2_with fail
    refine (isComplexI m _ ys w4 K4.out (by omega)).mono ?_
    rw [Hcb.out]
    rintro e w5 ⟨rfl, b5⟩
    obtain ⟨q5_0, q5_1⟩ := At3_4.out.to b5
    obtain ⟨_, f50, f51⟩ := (Rs3_4.out).to b5
    have hr5 : w2.heap.size < w5.heap.size := ((Rs3_4.out).to b5).lt
    obtain ⟨a5_0, a5_1⟩ := At1_4.out.to b5
    obtain ⟨p5_0, p5_1⟩ := At2_4.out.to b5
    have B5 := hide (nxt B4.out b5)
    clear b5 p4_0 p4_1
    go_wp2
    refine bodyPost_ret (v := .tuple #[.agg #[.int .i64 0, .slice none 0 0], .bool false]) (by simp [results, Try.results32, go_sem, q5_0, q5_1]) rfl ?_
    exact retCB_no Hok.out (below_store B5.out Hle.out _ _)
  have hnm := Decidable.not_not.1 hnm
  have Hok : Hid (joinOk n m xs ys = true) := by show _ = _; unfold joinOk; rw [hca, hcb, decide_eq_true hnm]; rfl
  obtain ⟨hn1, hn6⟩ := (isCx_inv hca).1
  obtain ⟨hm1, hm6⟩ := (isCx_inv hcb).1
  have hq : n + m ≤ 6 := hnm
  have Hnm := hide hnm
  clear hca hcb hnm
  go_enter Try.func32, Try.ntmps32
  go_wp2_with fail
  clear hW1 hW2 hW3
  refine (isComplexI n _ xs w3 R3.out (by omega)).mono ?_
  rw [Hca.out]
  rintro e w4 ⟨rfl, b4⟩
  have R4 := hide (now_ R3.out b4)
  have K4 := hide (now_ K3.out b4)
  have At1_4 := hide (At1.out.to b4)
  have At2_4 := hide (At2.out.to b4)
  have At3_4 := hide (At3.out.to b4)
  have Rs3_4 := hide (Rs3.out.to b4)
  have B4 := hide (nxt B3.out b4)
  obtain ⟨p4_0, p4_1⟩ := At2_4.out
  clear b4 e1_0 e1_1 e2_0 e2_1 e3_0 e3_1
  go_wp2_with fail
  refine (isComplexI m _ ys w4 K4.out (by omega)).mono ?_
  rw [Hcb.out]
  rintro e w5 ⟨rfl, b5⟩
  obtain ⟨a5_0, a5_1⟩ := At1_4.out.to b5
  obtain ⟨p5_0, p5_1⟩ := At2_4.out.to b5
  have R5 := hide (now_ R4.out b5)
  have K5 := hide (now_ K4.out b5)
  have At1_5 := hide (At1_4.out.to b5)
  have At2_5 := hide (At2_4.out.to b5)
  have Rs3_5 := hide (Rs3_4.out.to b5)
  have B5 := hide (nxt B4.out b5)
  clear b5 p4_0 p4_1
  go_wp2_with fail
  refine (facesInI n _ xs w5 R5.out (by omega) Hca.out).mono ?_
  rintro e w6 ⟨rfl, b6⟩
  have K6 := now_ K5.out b6
  have He2 := hide (cxElems K6 Hcb.out)
  have Rs6 := hide (Rs3_5.out.to b6)
  have B6 := hide (nxt B5.out b6)
  obtain ⟨a6_0, a6_1⟩ := At1_5.out.to b6
  obtain ⟨p6_0, p6_1⟩ := At2_5.out.to b6
  clear b6 K6 a5_0 a5_1 p5_0 p5_1
  go_wp2_with fail
  go_loop [6, 8, 31] (fun a _ i => ∃ k : Nat, k ≤ ys.length ∧ i = .int .i64 k ∧ a = .int .u64 (fam (faceP (disL n xs (ys.take k))) : Int)) (fun _ _ i => ys.length - (intOf i).toNat)
  case atStart => exact ⟨0, by omega, rfl, by rw [List.take_zero, disL_nil]⟩
  case round =>
    obtain ⟨k, hk, rfl, rfl⟩ := hrel
    by_cases hlt : k < ys.length
    · obtain ⟨b2, o2, y, ⟨c2, hv2⟩, hy, hy64, hcy⟩ := He2.out k hlt
      cases hv2
      have hyn := isCx_bit Hcb.out hy
      obtain ⟨hml, hmv⟩ := moved_small hn1 hm1 hq hyn
      have Hy := hide hy
      have Ht : Hid (fam (faceP (disL n xs (ys.take (k + 1)))) = fam (fun u => faceP (disL n xs (ys.take k)) u || sub u (y * 2 ^ n.toNat))) := by show _ = _; rw [take_snoc _ _ _ Hy.out, disL_snoc]; congr 1; funext u; rw [faceP_snoc]; rfl
      obtain ⟨z, hz⟩ : ∃ z, z = y * 2 ^ n.toNat := ⟨_, rfl⟩
      rw [← hz] at hml hmv Ht
      have ho := or_fams (faceP (disL n xs (ys.take k))) (fun u => sub u z)
      clear hy hyn hz
      go_wp2_with (go_at_call 47; (try rw [hmv]); refine (subsetFamilyI _ hml _).mono ?_; rintro e wx ⟨rfl, rfl⟩)
      go_round
      case rel => exact ⟨k + 1, by omega, by go_num, by rw [Ht.out]⟩
      case measure => simp [intOf]; omega
    · have hk2 : ys.length ≤ k := by omega
      have Ht := hide (take_all ys k hk2)
      rw [Ht.out]
      go_wp2_with fail
      refine (complexOfI (n + m) (faceP (disL n xs ys)) _).mono ?_
      rintro e w9 ⟨v9, rfl, o9, b9⟩
      obtain ⟨A9, c9, rfl⟩ := own_shape o9
      obtain ⟨⟨q0, q1, h90, h91⟩, f90, f91⟩ := Rs6.out.to b9
      have h9r := (Rs6.out.to b9).lt
      have hRs := Rs6.out
      have hBs := B6.out
      have Hfar := hide (fun j hj => Nat.lt_of_lt_of_le hRs.lt (own_block o9 j hj).1)
      have Ho := hide (own_mono o9 hBs.size)
      have Hb := hide (nxt hBs b9)
      clear o9 b9 hRs hBs
      go_wp2
      refine bodyPost_ret (v := .tuple #[.agg #[.int .i64 (n + m), .slice A9 (zs (maxOf (faceP (disL n xs ys)))).length c9], .bool true]) (by simp [results, Try.results32, go_sem, h90, h91]) rfl ?_
      refine retCB_yes Hok.out (own_setNe (own_setNe Ho.out (fun j hj => by have := Hfar.out j hj; omega) _ _) (fun j hj => by have := Hfar.out j hj; omega) _ _) (below_store Hb.out Hle.out _ _)

end Go.Proofs.Ytmkacjpjcfffmab
