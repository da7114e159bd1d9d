/- Walks: MeetOf in the reference. Printed by gen/w47.py. -/
import Derived.Test.YtmkacjpjcfffmabW46
import Derived.StillTailTactics
namespace Go.Proofs.Ytmkacjpjcfffmab
open Go.RowKit

def meetN (x y : Nat) : Nat := x &&& y
theorem prods_all {f : Nat → Nat → Nat} {xs ys : List Int} (h : ∀ x ∈ xs, ∀ y ∈ ys, f x.toNat y.toNat < 64) : allSets (zs (prods f xs ys)) = true :=
  allSets_zs fun s hs => by
    obtain ⟨x, hx, y, hy, rfl⟩ := mem_prods.1 hs
    exact h x hx y hy
theorem meet_all {n : Int} {xs ys : List Int} (h : isCx n xs = true) : allSets (zs (prods meetN xs ys)) = true :=
  prods_all fun x hx y _ => by
    have h1 := isCx_sets h x hx
    have h2 : x.toNat &&& y.toNat ≤ x.toNat := Nat.and_le_left
    show x.toNat &&& y.toNat < 64
    omega
theorem meet_max {n : Int} {xs ys : List Int} (h : isCx n xs = true) : maxOf (inList (zs (prods meetN xs ys))) = maxOf (fun s => faceP xs s && faceP ys s) := by
  rw [maxOf_list (meet_all h)]
  congr 1
  funext s
  exact meet_faces xs ys s

theorem meetOfS (n : Int) (v : Value) (xs : List Int) (m : Int) (u : Value) (ys : List Int) (w : World) (h : IntsAt w w.heap.size v xs) (k : IntsAt w w.heap.size u ys) (hl : xs.length ≤ 1048576) (kl : ys.length ≤ 1048576) :
    Calls Try.prog 27 #[.agg #[.int .i64 n, v], .agg #[.int .i64 m, u]] w fun e w' => RetCB 3 w (cbN (sameOk n m xs ys) (n)) (cbXs (sameOk n m xs ys) (maxOf (fun s => faceP xs s && faceP ys s))) (sameOk n m xs ys) e w' := by
  obtain ⟨A, c, rfl⟩ := reads_shape h
  obtain ⟨A', c', rfl⟩ := reads_shape k
  obtain ⟨w1, hW1, at1, b1, z1⟩ := boxC w (.int .i64 n) (.slice A xs.length c) 27
  obtain ⟨w2, hW2, at2, b2, z2⟩ := boxC w1 (.int .i64 m) (.slice A' ys.length c') 27
  obtain ⟨w3, hW3, at3, rs3, b3, z3⟩ := boxRes w2 27
  have b02 := nxt b1 b2
  have b03 := nxt b02 b3
  have R3 := hide (now_ h b03)
  have K3 := hide (now_ k b03)
  have at1 := (at1.to b2).to b3
  have at2 := at2.to b3
  have At1 := hide at1
  have At2 := hide at2
  have At3 := hide at3
  have Rs3 := hide rs3
  have B3 := hide b03
  have Hle : Hid (w.heap.size ≤ w2.heap.size) := by show _ ≤ _; omega
  have Hne1 : Hid (w.heap.size ≠ w2.heap.size) := by show _ ≠ _; omega
  have Hne2 : Hid (w1.heap.size ≠ w2.heap.size) := by show _ ≠ _; omega
  obtain ⟨e1_0, e1_1⟩ := at1
  obtain ⟨e2_0, e2_1⟩ := at2
  obtain ⟨e3_0, e3_1⟩ := at3
  clear h k b1 b2 b3 b02 b03 z1 z2 z3 rs3
  cases hca : isCx n xs
  · have Hca := hide hca
    have Hok : Hid (sameOk n m xs ys = false) := by show _ = _; unfold sameOk; rw [hca]; rfl
    clear hca
    go_enter Try.func27, Try.ntmps27
    go_wp2_with fail
    clear hW1 hW2 hW3
    refine (isComplexS n _ xs w3 R3.out (by omega)).mono ?_
    rw [Hca.out]
    rintro e w4 ⟨rfl, b4⟩
    obtain ⟨q4_0, q4_1⟩ := At3.out.to b4
    obtain ⟨_, f40, f41⟩ := (Rs3.out).to b4
    have hr4 : w2.heap.size < w4.heap.size := ((Rs3.out).to b4).lt
    have B4 := hide (nxt B3.out b4)
    clear b4 e1_0 e1_1 e2_0 e2_1 e3_0 e3_1
    go_wp2
    refine bodyPost_ret (v := .tuple #[.agg #[.int .i64 0, .slice none 0 0], .bool false]) (by simp [results, Try.results27, go_sem, q4_0, q4_1]) rfl ?_
    exact retCB_no Hok.out (below_store B4.out Hle.out _ _)
  have Hca := hide hca
  cases hcb : isCx m ys
  · have Hcb := hide hcb
    have Hok : Hid (sameOk n m xs ys = false) := by show _ = _; unfold sameOk; rw [hca, hcb]; rfl
    clear hca hcb
    go_enter Try.func27, Try.ntmps27
    go_wp2_with fail
    clear hW1 hW2 hW3
    refine (isComplexS n _ xs w3 R3.out (by omega)).mono ?_
    rw [Hca.out]
    rintro e w4 ⟨rfl, b4⟩
    have R4 := hide (now_ R3.out b4)
    have K4 := hide (now_ K3.out b4)
    have At1_4 := hide (At1.out.to b4)
    have At2_4 := hide (At2.out.to b4)
    have At3_4 := hide (At3.out.to b4)
    have Rs3_4 := hide (Rs3.out.to b4)
    have B4 := hide (nxt B3.out b4)
    obtain ⟨p4_0, p4_1⟩ := At2_4.out
    clear b4 e1_0 e1_1 e2_0 e2_1 e3_0 e3_1
    go_wp2_with fail
    refine (isComplexS m _ ys w4 K4.out (by omega)).mono ?_
    rw [Hcb.out]
    rintro e w5 ⟨rfl, b5⟩
    obtain ⟨q5_0, q5_1⟩ := At3_4.out.to b5
    obtain ⟨_, f50, f51⟩ := (Rs3_4.out).to b5
    have hr5 : w2.heap.size < w5.heap.size := ((Rs3_4.out).to b5).lt
    have B5 := hide (nxt B4.out b5)
    clear b5 p4_0 p4_1
    go_wp2
    refine bodyPost_ret (v := .tuple #[.agg #[.int .i64 0, .slice none 0 0], .bool false]) (by simp [results, Try.results27, go_sem, q5_0, q5_1]) rfl ?_
    exact retCB_no Hok.out (below_store B5.out Hle.out _ _)
  have Hcb := hide hcb
  by_cases hnm : ¬ (n = m)
  · skip
    have Hok : Hid (sameOk n m xs ys = false) := by show _ = _; unfold sameOk; rw [hca, hcb, decide_eq_false hnm]; rfl
    have hq : (n != m) = true := by simp [hnm]
    clear hca hcb hnm
    go_enter Try.func27, Try.ntmps27
    go_wp2_with fail
    clear hW1 hW2 hW3
    refine (isComplexS n _ xs w3 R3.out (by omega)).mono ?_
    rw [Hca.out]
    rintro e w4 ⟨rfl, b4⟩
    have R4 := hide (now_ R3.out b4)
    have K4 := hide (now_ K3.out b4)
    have At1_4 := hide (At1.out.to b4)
    have At2_4 := hide (At2.out.to b4)
    have At3_4 := hide (At3.out.to b4)
    have Rs3_4 := hide (Rs3.out.to b4)
    have B4 := hide (nxt B3.out b4)
    obtain ⟨p4_0, p4_1⟩ := At2_4.out
    clear b4 e1_0 e1_1 e2_0 e2_1 e3_0 e3_1
    go_wp2_with fail
    refine (isComplexS m _ ys w4 K4.out (by omega)).mono ?_
    rw [Hcb.out]
    rintro e w5 ⟨rfl, b5⟩
    obtain ⟨q5_0, q5_1⟩ := At3_4.out.to b5
    obtain ⟨_, f50, f51⟩ := (Rs3_4.out).to b5
    have hr5 : w2.heap.size < w5.heap.size := ((Rs3_4.out).to b5).lt
    obtain ⟨a5_0, a5_1⟩ := At1_4.out.to b5
    obtain ⟨p5_0, p5_1⟩ := At2_4.out.to b5
    have B5 := hide (nxt B4.out b5)
    clear b5 p4_0 p4_1
    go_wp2
    refine bodyPost_ret (v := .tuple #[.agg #[.int .i64 0, .slice none 0 0], .bool false]) (by simp [results, Try.results27, go_sem, q5_0, q5_1]) rfl ?_
    exact retCB_no Hok.out (below_store B5.out Hle.out _ _)
  have hnm := Decidable.not_not.1 hnm
  have Hok : Hid (sameOk n m xs ys = true) := by show _ = _; unfold sameOk; rw [hca, hcb, decide_eq_true hnm]; rfl
  have hq : (n != m) = false := by simp [hnm]
  have Hnm := hide hnm
  clear hca hcb hnm
  have Hl1 := hide (cx_len Hca.out)
  have Hl2 := hide (cx_len Hcb.out)
  have Hmax := hide (meet_max (ys := ys) Hca.out)
  have Hall := hide (meet_all (ys := ys) Hca.out)
  have Hlz : Hid ((zs (prods meetN xs ys)).length ≤ 1073741824) := by show _ ≤ _; rw [List.length_map, prods_len]; have h2 : xs.length * ys.length ≤ 448 * 448 := Nat.mul_le_mul Hl1.out Hl2.out; omega
  go_enter Try.func27, Try.ntmps27
  go_wp2_with fail
  clear hW1 hW2 hW3
  refine (isComplexS n _ xs w3 R3.out (by omega)).mono ?_
  rw [Hca.out]
  rintro e w4 ⟨rfl, b4⟩
  have R4 := hide (now_ R3.out b4)
  have K4 := hide (now_ K3.out b4)
  have At1_4 := hide (At1.out.to b4)
  have At2_4 := hide (At2.out.to b4)
  have At3_4 := hide (At3.out.to b4)
  have Rs3_4 := hide (Rs3.out.to b4)
  have B4 := hide (nxt B3.out b4)
  obtain ⟨p4_0, p4_1⟩ := At2_4.out
  clear b4 e1_0 e1_1 e2_0 e2_1 e3_0 e3_1
  go_wp2_with fail
  refine (isComplexS m _ ys w4 K4.out (by omega)).mono ?_
  rw [Hcb.out]
  rintro e w5 ⟨rfl, b5⟩
  obtain ⟨a5_0, a5_1⟩ := At1_4.out.to b5
  obtain ⟨p5_0, p5_1⟩ := At2_4.out.to b5
  have R5 := hide (now_ R4.out b5)
  have K5 := hide (now_ K4.out b5)
  have At1_5 := hide (At1_4.out.to b5)
  have At2_5 := hide (At2_4.out.to b5)
  have Rs3_5 := hide (Rs3_4.out.to b5)
  have B5 := hide (nxt B4.out b5)
  clear b5 p4_0 p4_1
  have He1 := hide (cxElems R5.out Hca.out)
  have He2 := hide (cxElems K5.out Hcb.out)
  obtain ⟨ho, hbw⟩ : OwnV 3 (w5.alloc (.cells #[] 3)) w5.heap.size (.slice (some ⟨w5.heap.size, 0, none⟩) 0 0) (ints (zs (prodTo (meetN) xs ys 0 0))) ∧ Below w5.heap.size w5 (w5.alloc (.cells #[] 3)) := ⟨by rw [prodTo_zero]; exact own_empty _ _, below_alloc _ _⟩
  have Ho := hide ho
  have Hbw := hide hbw
  clear ho hbw
  go_wp2_with fail
  clear a5_0 a5_1 p5_0 p5_1
  go_loopw [6, 7, 8] (fun v i _ wr => ∃ k : Nat, k ≤ xs.length ∧ i = .int .i64 k ∧ Hid (OwnV 3 wr w5.heap.size v (ints (zs (prodTo (meetN) xs ys k 0)))) ∧ Hid (Below w5.heap.size w5 wr)) (fun _ i _ _ => xs.length - (intOf i).toNat)
  case atStart => exact ⟨0, by omega, rfl, Ho, Hbw⟩
  case round =>
    obtain ⟨k, hk, rfl, hown, hb⟩ := hrel
    obtain ⟨a6_0, a6_1⟩ := At1_5.out.to hb.out
    obtain ⟨p6_0, p6_1⟩ := At2_5.out.to hb.out
    by_cases hlt : k < xs.length
    · obtain ⟨b1, o1, x, ⟨c1, hv1⟩, hx, hx64, hcx0⟩ := He1.out k hlt
      cases hv1
      have Hx := hide hx
      clear hx
      go_wp2_with fail
      go_loopw [6, 8] (fun v i wi => ∃ j : Nat, j ≤ ys.length ∧ i = .int .i64 j ∧ Hid (OwnV 3 wi w5.heap.size v (ints (zs (prodTo (meetN) xs ys k j)))) ∧ Hid (Below w5.heap.size w5 wi)) (fun _ i _ => ys.length - (intOf i).toNat)
      case atStart => exact ⟨0, by omega, rfl, hown, hb⟩
      case round =>
        obtain ⟨j, hj, rfl, hown2, hb2⟩ := hrel
        obtain ⟨a7_0, a7_1⟩ := At1_5.out.to hb2.out
        obtain ⟨p7_0, p7_1⟩ := At2_5.out.to hb2.out
        by_cases hlt2 : j < ys.length
        · obtain ⟨b2, o2, y, ⟨c2, hv2⟩, hy, hy64, hcy0⟩ := He2.out j hlt2
          cases hv2
          have hcx := (hb2.out.cell (p := ⟨b1, o1 + k, none⟩) (World.block_lt_of_cell? _ _ hcx0)).trans hcx0
          have hcy := (hb2.out.cell (p := ⟨b2, o2 + j, none⟩) (World.block_lt_of_cell? _ _ hcy0)).trans hcy0
          have Hstep := hide (prodTo_step (f := meetN) Hx.out hy)
          have Hy := hide hy
          have hlen : (zs (prodTo (meetN) xs ys k j)).length < 1000000 := by have h1 := prodTo_len (f := meetN) (xs := xs) (ys := ys) (i := k) (k := j); have h2 : (k + 1) * ys.length ≤ 449 * 448 := Nat.mul_le_mul (by have := Hl1.out; omega) Hl2.out; rw [List.length_map]; omega
          have hand := i64_and x y (by omega) (by omega)
          have hbd0 : Below w5.heap.size w5 wr.drew := hb2.out.drew
          have hbd1 : Below w5.heap.size w5 (wr.alloc (.cells #[.int .i64 ((x &&& y : Nat) : Int)] 3)).drew := (hb2.out.alloc hb2.out.size _).drew
          have hoa : OwnV 3 (wr.alloc (.cells #[.int .i64 ((x &&& y : Nat) : Int)] 3)).drew w5.heap.size _ (ints (zs (prodTo (meetN) xs ys k j))) := hown2.out.alloc _
          have hra : IntsAt (wr.alloc (.cells #[.int .i64 ((x &&& y : Nat) : Int)] 3)).drew _ (.slice (some ⟨wr.heap.size, 0, none⟩) 1 1) [((x &&& y : Nat) : Int)] := reads_new1 wr _ _
          have hza : w5.heap.size ≤ (wr.alloc (.cells #[.int .i64 ((x &&& y : Nat) : Int)] 3)).drew.heap.size := hbd1.size
          have hlen2 : (zs (prodTo (meetN) xs ys k j)).length + [((x &&& y : Nat) : Int)].length < 17179869184 := by show _ + 1 < _; omega
          have hS : Hid (∀ W : World, Below w5.heap.size w5 W → W.cell? ⟨w.heap.size, 0, none⟩ = some (.int .i64 n) ∧ W.cell? ⟨w.heap.size, 1, none⟩ = some (.slice (some ⟨b1, o1, none⟩) xs.length c) ∧ W.cell? ⟨w1.heap.size, 1, none⟩ = some (.slice (some ⟨b2, o2, none⟩) ys.length c') ∧ W.cell? ⟨b1, o1 + k, none⟩ = some (.int .i64 (x : Int)) ∧ W.cell? ⟨b2, o2 + j, none⟩ = some (.int .i64 (y : Int))) := fun W h => ⟨(h.cell (p := ⟨w.heap.size, 0, none⟩) At1_5.out.lt).trans At1_5.out.1, (h.cell (p := ⟨w.heap.size, 1, none⟩) At1_5.out.lt).trans At1_5.out.2, (h.cell (p := ⟨w1.heap.size, 1, none⟩) At2_5.out.lt).trans At2_5.out.2, (h.cell (p := ⟨b1, o1 + k, none⟩) (World.block_lt_of_cell? _ _ hcx0)).trans hcx0, (h.cell (p := ⟨b2, o2 + j, none⟩) (World.block_lt_of_cell? _ _ hcy0)).trans hcy0⟩
          clear hy
          go_wp2_with fail
          go_region_held3 (fun W => W.cell? ⟨w.heap.size, 0, none⟩ = some (.int .i64 n) ∧ W.cell? ⟨w.heap.size, 1, none⟩ = some (.slice (some ⟨b1, o1, none⟩) xs.length c) ∧ W.cell? ⟨w1.heap.size, 1, none⟩ = some (.slice (some ⟨b2, o2, none⟩) ys.length c') ∧ W.cell? ⟨b1, o1 + k, none⟩ = some (.int .i64 (x : Int)) ∧ W.cell? ⟨b2, o2 + j, none⟩ = some (.int .i64 (y : Int))) (first | with_reducible exact hS.out _ hbd0 | with_reducible exact hS.out _ hbd1 | with_reducible exact hS.out _ hbd7 | go_keep) (first | (refine step_appL hoa hra Try.underlying22 infoI rfl _ _ rfl rfl rfl hlen2 hza ?_; intro v7 w7 ho7 hb7; have hbd7 := hbd1.trans hb7))
          have Hown7 : Hid (OwnV 3 w7 w5.heap.size v7 (ints (zs (prodTo (meetN) xs ys k (j + 1))))) := by show OwnV _ _ _ _ _; rw [Hstep.out, zs_snoc]; exact ho7
          have Hb7 : Hid (Below w5.heap.size w5 w7) := hbd7
          go_wp2
          go_roundw
          case rel => exact ⟨j + 1, by omega, by go_num, Hown7, Hb7⟩
          case measure => simp [intOf]; omega
        · have hj2 : ys.length ≤ j := by omega
          have Hn := hide (prodTo_next (f := meetN) Hx.out hj2)
          have ho3 := hown2.out
          rw [← Hn.out] at ho3
          have Ho3 := hide ho3
          clear ho3 hown2
          go_wp2
          go_roundw
          case rel => exact ⟨k + 1, by omega, by go_num, Ho3, hb2⟩
          case measure => simp [intOf]; omega
    · have hk2 : xs.length ≤ k := by omega
      have ho3 := hown.out
      rw [prodTo_all hk2] at ho3
      have Ho3 := hide ho3
      have Rs6 := hide (Rs3_5.out.to hb.out)
      have B6 := hide (nxt B5.out hb.out)
      clear ho3 hown
      go_wp2_with fail
      refine (l3MakeS (n) _ _ wr (own_reads Ho3.out) Hlz.out Hall.out).mono ?_
      rintro e w9 ⟨v9, rfl, o9, b9⟩
      rw [Hmax.out] at o9
      obtain ⟨A9, c9, rfl⟩ := own_shape o9
      obtain ⟨⟨q0, q1, h90, h91⟩, f90, f91⟩ := Rs6.out.to b9
      have h9r := (Rs6.out.to b9).lt
      have hRs := Rs6.out
      have hBs := B6.out
      have Hfar := hide (fun j hj => Nat.lt_of_lt_of_le hRs.lt (own_block o9 j hj).1)
      have Ho := hide (own_mono o9 hBs.size)
      have Hb := hide (nxt hBs b9)
      clear o9 b9 hRs hBs
      go_wp2
      refine bodyPost_ret (v := .tuple #[.agg #[.int .i64 (n), .slice A9 (zs (maxOf (fun s => faceP xs s && faceP ys s))).length c9], .bool true]) (by simp [results, Try.results27, go_sem, h90, h91]) rfl ?_
      refine retCB_yes Hok.out (own_setNe (own_setNe Ho.out (fun j hj => by have := Hfar.out j hj; omega) _ _) (fun j hj => by have := Hfar.out j hj; omega) _ _) (below_store Hb.out Hle.out _ _)
end Go.Proofs.Ytmkacjpjcfffmab
