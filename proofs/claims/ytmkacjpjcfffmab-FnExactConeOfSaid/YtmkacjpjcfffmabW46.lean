/- Walks: UnionOf in the reference. Printed by gen/w46.py. -/
import Derived.Test.YtmkacjpjcfffmabW45
namespace Go.Proofs.Ytmkacjpjcfffmab
open Go.RowKit

theorem cx_all {n : Int} {xs : List Int} (h : isCx n xs = true) : allSets xs = true := List.all_eq_true.2 fun x hx => decide_eq_true (isCx_sets h x hx)
theorem union_max {n m : Int} {xs ys : List Int} (h : isCx n xs = true) (k : isCx m ys = true) : maxOf (inList (([] ++ xs) ++ ys)) = maxOf (fun s => faceP xs s || faceP ys s) := by
  rw [List.nil_append, maxOf_list (allSets_append (cx_all h) (cx_all k))]
  congr 1
  funext s
  exact faceP_append xs ys s

theorem unionOfS (n : Int) (v : Value) (xs : List Int) (m : Int) (u : Value) (ys : List Int) (w : World) (h : IntsAt w w.heap.size v xs) (k : IntsAt w w.heap.size u ys) (hl : xs.length ≤ 1048576) (kl : ys.length ≤ 1048576) :
    Calls Try.prog 24 #[.agg #[.int .i64 n, v], .agg #[.int .i64 m, u]] w fun e w' => RetCB 3 w (cbN (sameOk n m xs ys) (n)) (cbXs (sameOk n m xs ys) (maxOf (fun s => faceP xs s || faceP ys s))) (sameOk n m xs ys) e w' := by
  obtain ⟨A, c, rfl⟩ := reads_shape h
  obtain ⟨A', c', rfl⟩ := reads_shape k
  obtain ⟨w1, hW1, at1, b1, z1⟩ := boxC w (.int .i64 n) (.slice A xs.length c) 27
  obtain ⟨w2, hW2, at2, b2, z2⟩ := boxC w1 (.int .i64 m) (.slice A' ys.length c') 27
  obtain ⟨w3, hW3, at3, rs3, b3, z3⟩ := boxRes w2 27
  have b02 := nxt b1 b2
  have b03 := nxt b02 b3
  have R3 := hide (now_ h b03)
  have K3 := hide (now_ k b03)
  have at1 := (at1.to b2).to b3
  have at2 := at2.to b3
  have At1 := hide at1
  have At2 := hide at2
  have At3 := hide at3
  have Rs3 := hide rs3
  have B3 := hide b03
  have Hle : Hid (w.heap.size ≤ w2.heap.size) := by show _ ≤ _; omega
  have Hne1 : Hid (w.heap.size ≠ w2.heap.size) := by show _ ≠ _; omega
  have Hne2 : Hid (w1.heap.size ≠ w2.heap.size) := by show _ ≠ _; omega
  obtain ⟨e1_0, e1_1⟩ := at1
  obtain ⟨e2_0, e2_1⟩ := at2
  obtain ⟨e3_0, e3_1⟩ := at3
  clear h k b1 b2 b3 b02 b03 z1 z2 z3 rs3
  cases hca : isCx n xs
  · have Hca := hide hca
    have Hok : Hid (sameOk n m xs ys = false) := by show _ = _; unfold sameOk; rw [hca]; rfl
    clear hca
    go_enter Try.func24, Try.ntmps24
    go_wp2_with fail
    clear hW1 hW2 hW3
    refine (isComplexS n _ xs w3 R3.out (by omega)).mono ?_
    rw [Hca.out]
    rintro e w4 ⟨rfl, b4⟩
    obtain ⟨q4_0, q4_1⟩ := At3.out.to b4
    obtain ⟨_, f40, f41⟩ := (Rs3.out).to b4
    have hr4 : w2.heap.size < w4.heap.size := ((Rs3.out).to b4).lt
    have B4 := hide (nxt B3.out b4)
    clear b4 e1_0 e1_1 e2_0 e2_1 e3_0 e3_1
    go_wp2
    refine bodyPost_ret (v := .tuple #[.agg #[.int .i64 0, .slice none 0 0], .bool false]) (by simp [results, Try.results24, go_sem, q4_0, q4_1]) rfl ?_
    exact retCB_no Hok.out (below_store B4.out Hle.out _ _)
  have Hca := hide hca
  cases hcb : isCx m ys
  · have Hcb := hide hcb
    have Hok : Hid (sameOk n m xs ys = false) := by show _ = _; unfold sameOk; rw [hca, hcb]; rfl
    clear hca hcb
    go_enter Try.func24, Try.ntmps24
    go_wp2_with fail
    clear hW1 hW2 hW3
    refine (isComplexS n _ xs w3 R3.out (by omega)).mono ?_
    rw [Hca.out]
    rintro e w4 ⟨rfl, b4⟩
    have R4 := hide (now_ R3.out b4)
    have K4 := hide (now_ K3.out b4)
    have At1_4 := hide (At1.out.to b4)
    have At2_4 := hide (At2.out.to b4)
    have At3_4 := hide (At3.out.to b4)
    have Rs3_4 := hide (Rs3.out.to b4)
    have B4 := hide (nxt B3.out b4)
    obtain ⟨p4_0, p4_1⟩ := At2_4.out
    clear b4 e1_0 e1_1 e2_0 e2_1 e3_0 e3_1
    go_wp2_with fail
    refine (isComplexS m _ ys w4 K4.out (by omega)).mono ?_
    rw [Hcb.out]
    rintro e w5 ⟨rfl, b5⟩
    obtain ⟨q5_0, q5_1⟩ := At3_4.out.to b5
    obtain ⟨_, f50, f51⟩ := (Rs3_4.out).to b5
    have hr5 : w2.heap.size < w5.heap.size := ((Rs3_4.out).to b5).lt
    have B5 := hide (nxt B4.out b5)
    clear b5 p4_0 p4_1
    go_wp2
    refine bodyPost_ret (v := .tuple #[.agg #[.int .i64 0, .slice none 0 0], .bool false]) (by simp [results, Try.results24, go_sem, q5_0, q5_1]) rfl ?_
    exact retCB_no Hok.out (below_store B5.out Hle.out _ _)
  have Hcb := hide hcb
  by_cases hnm : ¬ (n = m)
  · skip
    have Hok : Hid (sameOk n m xs ys = false) := by show _ = _; unfold sameOk; rw [hca, hcb, decide_eq_false hnm]; rfl
    have hq : (n != m) = true := by simp [hnm]
    clear hca hcb hnm
    go_enter Try.func24, Try.ntmps24
    go_wp2_with fail
    clear hW1 hW2 hW3
    refine (isComplexS n _ xs w3 R3.out (by omega)).mono ?_
    rw [Hca.out]
    rintro e w4 ⟨rfl, b4⟩
    have R4 := hide (now_ R3.out b4)
    have K4 := hide (now_ K3.out b4)
    have At1_4 := hide (At1.out.to b4)
    have At2_4 := hide (At2.out.to b4)
    have At3_4 := hide (At3.out.to b4)
    have Rs3_4 := hide (Rs3.out.to b4)
    have B4 := hide (nxt B3.out b4)
    obtain ⟨p4_0, p4_1⟩ := At2_4.out
    clear b4 e1_0 e1_1 e2_0 e2_1 e3_0 e3_1
    go_wp2_with fail
    refine (isComplexS m _ ys w4 K4.out (by omega)).mono ?_
    rw [Hcb.out]
    rintro e w5 ⟨rfl, b5⟩
    obtain ⟨q5_0, q5_1⟩ := At3_4.out.to b5
    obtain ⟨_, f50, f51⟩ := (Rs3_4.out).to b5
    have hr5 : w2.heap.size < w5.heap.size := ((Rs3_4.out).to b5).lt
    obtain ⟨a5_0, a5_1⟩ := At1_4.out.to b5
    obtain ⟨p5_0, p5_1⟩ := At2_4.out.to b5
    have B5 := hide (nxt B4.out b5)
    clear b5 p4_0 p4_1
    go_wp2
    refine bodyPost_ret (v := .tuple #[.agg #[.int .i64 0, .slice none 0 0], .bool false]) (by simp [results, Try.results24, go_sem, q5_0, q5_1]) rfl ?_
    exact retCB_no Hok.out (below_store B5.out Hle.out _ _)
  have hnm := Decidable.not_not.1 hnm
  have Hok : Hid (sameOk n m xs ys = true) := by show _ = _; unfold sameOk; rw [hca, hcb, decide_eq_true hnm]; rfl
  have hq : (n != m) = false := by simp [hnm]
  have Hnm := hide hnm
  clear hca hcb hnm
  have Hmax := hide (union_max Hca.out Hcb.out)
  have Hall : Hid (allSets (([] ++ xs) ++ ys) = true) := allSets_append (allSets_append rfl (cx_all Hca.out)) (cx_all Hcb.out)
  have hlen0 : ([] : List Int).length + xs.length < 17179869184 := by show 0 + xs.length < _; omega
  have hlen1 : (([] : List Int) ++ xs).length + ys.length < 17179869184 := by rw [List.nil_append]; omega
  have hlen2 : ((([] : List Int) ++ xs) ++ ys).length ≤ 1073741824 := by rw [List.nil_append, List.length_append]; omega
  go_enter Try.func24, Try.ntmps24
  go_wp2_with fail
  clear hW1 hW2 hW3
  refine (isComplexS n _ xs w3 R3.out (by omega)).mono ?_
  rw [Hca.out]
  rintro e w4 ⟨rfl, b4⟩
  have R4 := hide (now_ R3.out b4)
  have K4 := hide (now_ K3.out b4)
  have At1_4 := hide (At1.out.to b4)
  have At2_4 := hide (At2.out.to b4)
  have At3_4 := hide (At3.out.to b4)
  have Rs3_4 := hide (Rs3.out.to b4)
  have B4 := hide (nxt B3.out b4)
  obtain ⟨p4_0, p4_1⟩ := At2_4.out
  clear b4 e1_0 e1_1 e2_0 e2_1 e3_0 e3_1
  go_wp2_with fail
  refine (isComplexS m _ ys w4 K4.out (by omega)).mono ?_
  rw [Hcb.out]
  rintro e w5 ⟨rfl, b5⟩
  obtain ⟨a5_0, a5_1⟩ := At1_4.out.to b5
  obtain ⟨p5_0, p5_1⟩ := At2_4.out.to b5
  have R5 := hide (now_ R4.out b5)
  have K5 := hide (now_ K4.out b5)
  have At1_5 := hide (At1_4.out.to b5)
  have At2_5 := hide (At2_4.out.to b5)
  have Rs3_5 := hide (Rs3_4.out.to b5)
  have B5 := hide (nxt B4.out b5)
  clear b5 p4_0 p4_1
  have Sx : Hid (Below w.heap.size w w5.drew ∧ Res w2.heap.size w5.drew) := ⟨B5.out.drew, by have h := Rs3_5.out; exact h⟩
  have hK : Hid (∀ W W' : World, (AtC W w.heap.size (.int .i64 n) (.slice A xs.length c) ∧ AtC W w1.heap.size (.int .i64 m) (.slice A' ys.length c') ∧ Hid (Below w.heap.size w W ∧ Res w2.heap.size W)) → Below W.heap.size W W' → (AtC W' w.heap.size (.int .i64 n) (.slice A xs.length c) ∧ AtC W' w1.heap.size (.int .i64 m) (.slice A' ys.length c') ∧ Hid (Below w.heap.size w W' ∧ Res w2.heap.size W'))) := fun W W' h k => ⟨h.1.to k, h.2.1.to k, nxt h.2.2.1 k, h.2.2.2.to k⟩
  have hKs : Hid (∀ (W : World) (x y : Value), (AtC W w.heap.size (.int .i64 n) (.slice A xs.length c) ∧ AtC W w1.heap.size (.int .i64 m) (.slice A' ys.length c') ∧ Hid (Below w.heap.size w W ∧ Res w2.heap.size W)) → (AtC ((W.setCell ⟨w2.heap.size, 0, none⟩ x).setCell ⟨w2.heap.size, 1, none⟩ y) w.heap.size (.int .i64 n) (.slice A xs.length c) ∧ AtC ((W.setCell ⟨w2.heap.size, 0, none⟩ x).setCell ⟨w2.heap.size, 1, none⟩ y) w1.heap.size (.int .i64 m) (.slice A' ys.length c') ∧ Hid (Below w.heap.size w ((W.setCell ⟨w2.heap.size, 0, none⟩ x).setCell ⟨w2.heap.size, 1, none⟩ y) ∧ Res w2.heap.size ((W.setCell ⟨w2.heap.size, 0, none⟩ x).setCell ⟨w2.heap.size, 1, none⟩ y)))) := fun W x y h => ⟨h.1.store Hne1.out x y, h.2.1.store Hne2.out x y, below_store h.2.2.1 Hle.out x y, h.2.2.2.store x y⟩
  have S5 : AtC w5 w.heap.size (.int .i64 n) (.slice A xs.length c) ∧ AtC w5 w1.heap.size (.int .i64 m) (.slice A' ys.length c') ∧ Hid (Below w.heap.size w w5 ∧ Res w2.heap.size w5) := ⟨At1_5.out, At2_5.out, B5.out, Rs3_5.out⟩
  have ho0 : OwnV 3 (w5.alloc (.cells #[] 3)).drew w5.heap.size (.slice (some ⟨w5.heap.size, 0, none⟩) 0 0) (ints []) := own_empty _ _
  have hba : Below w5.heap.size w5 (w5.alloc (.cells #[] 3)).drew := (below_alloc w5 _).drew
  have hr0 := now_ R5.out hba
  have hz0 : w5.heap.size ≤ (w5.alloc (.cells #[] 3)).drew.heap.size := hba.size
  go_wp2
  go_region_held3 (fun W => ((W.cell? ⟨w.heap.size, 0, none⟩ = some (.int .i64 n) ∧ W.cell? ⟨w.heap.size, 1, none⟩ = some (.slice A xs.length c)) ∧ (W.cell? ⟨w1.heap.size, 0, none⟩ = some (.int .i64 m) ∧ W.cell? ⟨w1.heap.size, 1, none⟩ = some (.slice A' ys.length c')) ∧ Hid (Below w.heap.size w W ∧ Res w2.heap.size W))) (first | exact ⟨⟨a5_0, a5_1⟩, ⟨p5_0, p5_1⟩, Sx⟩ | exact hK.out _ _ S5 (by assumption) | exact hK.out _ _ (by assumption) (by assumption) | exact hKs.out _ _ _ (by assumption) | assumption | go_keep) (first | (refine step_appL ho0 hr0 Try.underlying22 infoI rfl _ _ rfl rfl rfl hlen0 hz0 ?_; intro v6 w6 ho6 hb6; have hbb6 := hba.trans hb6; have hr6 := now_ K5.out hbb6; have hz6 := hbb6.size) | (refine step_appL ho6 hr6 Try.underlying22 infoI rfl _ _ rfl rfl rfl hlen1 hz6 ?_; intro v7 w7 ho7 hb7; have hbb7 := hbb6.trans hb7) | (go_at_call 44; rename_i hS _ _; have hRs := hS.2.2.2; have hBs := hS.2.2.1; refine (l3MakeS n _ _ _ (own_reads ho7) hlen2 Hall.out).mono ?_; rintro e w9 ⟨v9, rfl, o9, b9⟩; rw [Hmax.out] at o9; obtain ⟨A9, c9, rfl⟩ := own_shape o9; obtain ⟨⟨q0, q1, h90, h91⟩, f90, f91⟩ := hRs.to b9; have h9r := (hRs.to b9).lt))
  all_goals (
    have Hfar := hide (fun j hj => Nat.lt_of_lt_of_le hRs.lt (own_block o9 j hj).1)
    have Ho := hide (own_mono o9 hBs.size)
    have Hb := hide (nxt hBs b9)
    clear o9 b9 hRs hBs
    go_wp2
    refine bodyPost_ret (v := .tuple #[.agg #[.int .i64 (n), .slice A9 (zs (maxOf (fun s => faceP xs s || faceP ys s))).length c9], .bool true]) (by simp [results, Try.results24, go_sem, h90, h91]) rfl ?_
    refine retCB_yes Hok.out (own_setNe (own_setNe Ho.out (fun j hj => by have := Hfar.out j hj; omega) _ _) (fun j hj => by have := Hfar.out j hj; omega) _ _) (below_store Hb.out Hle.out _ _))
end Go.Proofs.Ytmkacjpjcfffmab
