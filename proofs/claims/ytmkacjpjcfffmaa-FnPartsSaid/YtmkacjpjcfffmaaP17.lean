/- Texts of one kind, laid together (3 of them). -/
import Derived.Test.YtmkacjpjcfffmaaP2
import Derived.Test.YtmkacjpjcfffmaaP6
import Derived.Test.YtmkacjpjcfffmaaP7
import Derived.Test.YtmkacjpjcfffmaaP8
import Derived.Test.YtmkacjpjcfffmaaP14
import Derived.Test.YtmkacjpjcfffmaaP15
import Derived.Test.YtmkacjpjcfffmaaP16
namespace Go.Proofs.Ytmkacjpjcfffmaa
/- Walks: UnionOf, MeetOf in the program. Printed by gen/w45.py. -/
section
open Go.RowKit

theorem and_fams45 (P Q : Nat → Bool) : bits BinOp.and IntKind.u64 (fam P : Int) (fam Q : Int) = ((fam (fun s => P s && Q s) : Nat) : Int) := by
  rw [u64_and_nat _ _ (fam_lt P) (fam_lt Q), fam_and]

theorem unionOfI (n : Int) (v : Value) (xs : List Int) (m : Int) (u : Value) (ys : List Int) (w : World) (h : IntsAt w w.heap.size v xs) (k : IntsAt w w.heap.size u ys) (hl : xs.length ≤ 1048576) (kl : ys.length ≤ 1048576) :
    Calls Try.prog 73 #[.agg #[.int .i64 n, v], .agg #[.int .i64 m, u]] w fun e w' => RetCB 3 w (cbN (sameOk n m xs ys) (n)) (cbXs (sameOk n m xs ys) (maxOf (fun s => faceP xs s || faceP ys s))) (sameOk n m xs ys) e w' := by
  obtain ⟨A, c, rfl⟩ := reads_shape h
  obtain ⟨A', c', rfl⟩ := reads_shape k
  obtain ⟨w1, hW1, at1, b1, z1⟩ := boxC w (.int .i64 n) (.slice A xs.length c) 42
  obtain ⟨w2, hW2, at2, b2, z2⟩ := boxC w1 (.int .i64 m) (.slice A' ys.length c') 42
  obtain ⟨w3, hW3, at3, rs3, b3, z3⟩ := boxRes w2 42
  have R0 := hide h
  have K0 := hide k
  have b02 := nxt b1 b2
  have b03 := nxt b02 b3
  have R3 := hide (now_ h b03)
  have K3 := hide (now_ k b03)
  have at1 := (at1.to b2).to b3
  have at2 := at2.to b3
  have At1 := hide at1
  have At2 := hide at2
  have At3 := hide at3
  have Rs3 := hide rs3
  have B3 := hide b03
  have Hle : Hid (w.heap.size ≤ w2.heap.size) := by show _ ≤ _; omega
  have Hne1 : Hid (w.heap.size ≠ w2.heap.size) := by show _ ≠ _; omega
  have Hne2 : Hid (w1.heap.size ≠ w2.heap.size) := by show _ ≠ _; omega
  obtain ⟨e1_0, e1_1⟩ := at1
  obtain ⟨e2_0, e2_1⟩ := at2
  obtain ⟨e3_0, e3_1⟩ := at3
  clear h k b1 b2 b3 b02 b03 z1 z2 z3 rs3
  cases hca : isCx n xs
  · have Hca := hide hca
    have Hok : Hid (sameOk n m xs ys = false) := by show _ = _; unfold sameOk; rw [hca]; rfl
    clear hca
    go_enter Try.func73, Try.ntmps73
    go_wp2_with fail
    clear hW1 hW2 hW3
    refine (isComplexI n _ xs w3 R3.out (by omega)).mono ?_
    rw [Hca.out]
    rintro e w4 ⟨rfl, b4⟩
    obtain ⟨q4_0, q4_1⟩ := At3.out.to b4
    obtain ⟨_, f40, f41⟩ := (Rs3.out).to b4
    have hr4 : w2.heap.size < w4.heap.size := ((Rs3.out).to b4).lt
    have B4 := hide (nxt B3.out b4)
    clear b4 e1_0 e1_1 e2_0 e2_1 e3_0 e3_1
    go_wp2
    refine bodyPost_ret (v := .tuple #[.agg #[.int .i64 0, .slice none 0 0], .bool false]) (by simp [results, Try.results73, go_sem, q4_0, q4_1]) rfl ?_
    exact retCB_no Hok.out (below_store B4.out Hle.out _ _)
  have Hca := hide hca
  cases hcb : isCx m ys
  · have Hcb := hide hcb
    have Hok : Hid (sameOk n m xs ys = false) := by show _ = _; unfold sameOk; rw [hca, hcb]; rfl
    clear hca hcb
    go_enter Try.func73, Try.ntmps73
    go_wp2_with fail
    clear hW1 hW2 hW3
    refine (isComplexI n _ xs w3 R3.out (by omega)).mono ?_
    rw [Hca.out]
    rintro e w4 ⟨rfl, b4⟩
    have R4 := hide (now_ R3.out b4)
    have K4 := hide (now_ K3.out b4)
    have At1_4 := hide (At1.out.to b4)
    have At2_4 := hide (At2.out.to b4)
    have At3_4 := hide (At3.out.to b4)
    have Rs3_4 := hide (Rs3.out.to b4)
    have B4 := hide (nxt B3.out b4)
    obtain ⟨p4_0, p4_1⟩ := At2_4.out
    clear b4 e1_0 e1_1 e2_0 e2_1 e3_0 e3_1
    go_wp2_with fail
    refine (isComplexI m _ ys w4 K4.out (by omega)).mono ?_
    rw [Hcb.out]
    rintro e w5 ⟨rfl, b5⟩
    obtain ⟨q5_0, q5_1⟩ := At3_4.out.to b5
    obtain ⟨_, f50, f51⟩ := (Rs3_4.out).to b5
    have hr5 : w2.heap.size < w5.heap.size := ((Rs3_4.out).to b5).lt
    have B5 := hide (nxt B4.out b5)
    clear b5 p4_0 p4_1
    go_wp2
    refine bodyPost_ret (v := .tuple #[.agg #[.int .i64 0, .slice none 0 0], .bool false]) (by simp [results, Try.results73, go_sem, q5_0, q5_1]) rfl ?_
    exact retCB_no Hok.out (below_store B5.out Hle.out _ _)
  have Hcb := hide hcb
  by_cases hnm : ¬ (n = m)
  · skip
    have Hok : Hid (sameOk n m xs ys = false) := by show _ = _; unfold sameOk; rw [hca, hcb, decide_eq_false hnm]; rfl
    have hq : (n != m) = true := by simp [hnm]
    clear hca hcb hnm
    go_enter Try.func73, Try.ntmps73
    go_wp2_with fail
    clear hW1 hW2 hW3
    refine (isComplexI n _ xs w3 R3.out (by omega)).mono ?_
    rw [Hca.out]
    rintro e w4 ⟨rfl, b4⟩
    have R4 := hide (now_ R3.out b4)
    have K4 := hide (now_ K3.out b4)
    have At1_4 := hide (At1.out.to b4)
    have At2_4 := hide (At2.out.to b4)
    have At3_4 := hide (At3.out.to b4)
    have Rs3_4 := hide (Rs3.out.to b4)
    have B4 := hide (nxt B3.out b4)
    obtain ⟨p4_0, p4_1⟩ := At2_4.out
    clear b4 e1_0 e1_1 e2_0 e2_1 e3_0 e3_1
    go_wp2_with fail
    refine (isComplexI m _ ys w4 K4.out (by omega)).mono ?_
    rw [Hcb.out]
    rintro e w5 ⟨rfl, b5⟩
    obtain ⟨q5_0, q5_1⟩ := At3_4.out.to b5
    obtain ⟨_, f50, f51⟩ := (Rs3_4.out).to b5
    have hr5 : w2.heap.size < w5.heap.size := ((Rs3_4.out).to b5).lt
    obtain ⟨a5_0, a5_1⟩ := At1_4.out.to b5
    obtain ⟨p5_0, p5_1⟩ := At2_4.out.to b5
    have B5 := hide (nxt B4.out b5)
    clear b5 p4_0 p4_1
    go_wp2
    refine bodyPost_ret (v := .tuple #[.agg #[.int .i64 0, .slice none 0 0], .bool false]) (by simp [results, Try.results73, go_sem, q5_0, q5_1]) rfl ?_
    exact retCB_no Hok.out (below_store B5.out Hle.out _ _)
  have hnm := Decidable.not_not.1 hnm
  have Hok : Hid (sameOk n m xs ys = true) := by show _ = _; unfold sameOk; rw [hca, hcb, decide_eq_true hnm]; rfl
  have hq : (n != m) = false := by simp [hnm]
  have Hnm := hide hnm
  clear hca hcb hnm
  have ho := or_fams (faceP xs) (faceP ys)
  go_enter Try.func73, Try.ntmps73
  go_wp2_with fail
  clear hW1 hW2 hW3
  refine (isComplexI n _ xs w3 R3.out (by omega)).mono ?_
  rw [Hca.out]
  rintro e w4 ⟨rfl, b4⟩
  have R4 := hide (now_ R3.out b4)
  have K4 := hide (now_ K3.out b4)
  have At1_4 := hide (At1.out.to b4)
  have At2_4 := hide (At2.out.to b4)
  have At3_4 := hide (At3.out.to b4)
  have Rs3_4 := hide (Rs3.out.to b4)
  have B4 := hide (nxt B3.out b4)
  obtain ⟨p4_0, p4_1⟩ := At2_4.out
  clear b4 e1_0 e1_1 e2_0 e2_1 e3_0 e3_1
  go_wp2_with fail
  refine (isComplexI m _ ys w4 K4.out (by omega)).mono ?_
  rw [Hcb.out]
  rintro e w5 ⟨rfl, b5⟩
  obtain ⟨a5_0, a5_1⟩ := At1_4.out.to b5
  obtain ⟨p5_0, p5_1⟩ := At2_4.out.to b5
  have R5 := hide (now_ R4.out b5)
  have K5 := hide (now_ K4.out b5)
  have At1_5 := hide (At1_4.out.to b5)
  have At2_5 := hide (At2_4.out.to b5)
  have Rs3_5 := hide (Rs3_4.out.to b5)
  have B5 := hide (nxt B4.out b5)
  clear b5 p4_0 p4_1
  have Sx : Hid (Below w.heap.size w w5.drew ∧ Res w2.heap.size w5.drew) := ⟨B5.out.drew, by have h := Rs3_5.out; exact h⟩
  have hK : Hid (∀ W W' : World, (AtC W w.heap.size (.int .i64 n) (.slice A xs.length c) ∧ AtC W w1.heap.size (.int .i64 m) (.slice A' ys.length c') ∧ Hid (Below w.heap.size w W ∧ Res w2.heap.size W)) → Below W.heap.size W W' → (AtC W' w.heap.size (.int .i64 n) (.slice A xs.length c) ∧ AtC W' w1.heap.size (.int .i64 m) (.slice A' ys.length c') ∧ Hid (Below w.heap.size w W' ∧ Res w2.heap.size W'))) := fun W W' h k => ⟨h.1.to k, h.2.1.to k, nxt h.2.2.1 k, h.2.2.2.to k⟩
  have hKs : Hid (∀ (W : World) (x y : Value), (AtC W w.heap.size (.int .i64 n) (.slice A xs.length c) ∧ AtC W w1.heap.size (.int .i64 m) (.slice A' ys.length c') ∧ Hid (Below w.heap.size w W ∧ Res w2.heap.size W)) → (AtC ((W.setCell ⟨w2.heap.size, 0, none⟩ x).setCell ⟨w2.heap.size, 1, none⟩ y) w.heap.size (.int .i64 n) (.slice A xs.length c) ∧ AtC ((W.setCell ⟨w2.heap.size, 0, none⟩ x).setCell ⟨w2.heap.size, 1, none⟩ y) w1.heap.size (.int .i64 m) (.slice A' ys.length c') ∧ Hid (Below w.heap.size w ((W.setCell ⟨w2.heap.size, 0, none⟩ x).setCell ⟨w2.heap.size, 1, none⟩ y) ∧ Res w2.heap.size ((W.setCell ⟨w2.heap.size, 0, none⟩ x).setCell ⟨w2.heap.size, 1, none⟩ y)))) := fun W x y h => ⟨h.1.store Hne1.out x y, h.2.1.store Hne2.out x y, below_store h.2.2.1 Hle.out x y, h.2.2.2.store x y⟩
  have S5 : AtC w5 w.heap.size (.int .i64 n) (.slice A xs.length c) ∧ AtC w5 w1.heap.size (.int .i64 m) (.slice A' ys.length c') ∧ Hid (Below w.heap.size w w5 ∧ Res w2.heap.size w5) := ⟨At1_5.out, At2_5.out, B5.out, Rs3_5.out⟩
  go_wp2
  go_region_held3 (fun W => ((W.cell? ⟨w.heap.size, 0, none⟩ = some (.int .i64 n) ∧ W.cell? ⟨w.heap.size, 1, none⟩ = some (.slice A xs.length c)) ∧ (W.cell? ⟨w1.heap.size, 0, none⟩ = some (.int .i64 m) ∧ W.cell? ⟨w1.heap.size, 1, none⟩ = some (.slice A' ys.length c')) ∧ Hid (Below w.heap.size w W ∧ Res w2.heap.size W))) (first | exact ⟨⟨a5_0, a5_1⟩, ⟨p5_0, p5_1⟩, Sx⟩ | exact hK.out _ _ S5 (by assumption) | exact hK.out _ _ (by assumption) (by assumption) | exact hKs.out _ _ _ (by assumption) | assumption | go_keep) (first | (go_at_call 114; rename_i hS _ _; have hrx := now_ R0.out hS.2.2.1; have hry := now_ K0.out hS.2.2.1; first | (go_fit (facesInI n _ xs _ hrx (by omega) Hca.out); rintro e wq ⟨rfl, bq⟩) | (go_fit (facesInI m _ ys _ hry (by omega) Hcb.out); rintro e wq ⟨rfl, bq⟩)) | (go_at_call 124; rename_i hS _ _; have hRs := hS.2.2.2; have hBs := hS.2.2.1; refine (complexOfI n (fun s => faceP xs s || faceP ys s) _).mono ?_; rintro e w9 ⟨v9, rfl, o9, b9⟩; obtain ⟨A9, c9, rfl⟩ := own_shape o9; obtain ⟨⟨q0, q1, h90, h91⟩, f90, f91⟩ := hRs.to b9; have h9r := (hRs.to b9).lt))
  all_goals (
    have Hfar := hide (fun j hj => Nat.lt_of_lt_of_le hRs.lt (own_block o9 j hj).1)
    have Ho := hide (own_mono o9 hBs.size)
    have Hb := hide (nxt hBs b9)
    clear o9 b9 hRs hBs
    go_wp2
    refine bodyPost_ret (v := .tuple #[.agg #[.int .i64 (n), .slice A9 (zs (maxOf (fun s => faceP xs s || faceP ys s))).length c9], .bool true]) (by simp [results, Try.results73, go_sem, h90, h91]) rfl ?_
    refine retCB_yes Hok.out (own_setNe (own_setNe Ho.out (fun j hj => by have := Hfar.out j hj; omega) _ _) (fun j hj => by have := Hfar.out j hj; omega) _ _) (below_store Hb.out Hle.out _ _))

theorem meetOfI (n : Int) (v : Value) (xs : List Int) (m : Int) (u : Value) (ys : List Int) (w : World) (h : IntsAt w w.heap.size v xs) (k : IntsAt w w.heap.size u ys) (hl : xs.length ≤ 1048576) (kl : ys.length ≤ 1048576) :
    Calls Try.prog 75 #[.agg #[.int .i64 n, v], .agg #[.int .i64 m, u]] w fun e w' => RetCB 3 w (cbN (sameOk n m xs ys) (n)) (cbXs (sameOk n m xs ys) (maxOf (fun s => faceP xs s && faceP ys s))) (sameOk n m xs ys) e w' := by
  obtain ⟨A, c, rfl⟩ := reads_shape h
  obtain ⟨A', c', rfl⟩ := reads_shape k
  obtain ⟨w1, hW1, at1, b1, z1⟩ := boxC w (.int .i64 n) (.slice A xs.length c) 42
  obtain ⟨w2, hW2, at2, b2, z2⟩ := boxC w1 (.int .i64 m) (.slice A' ys.length c') 42
  obtain ⟨w3, hW3, at3, rs3, b3, z3⟩ := boxRes w2 42
  have R0 := hide h
  have K0 := hide k
  have b02 := nxt b1 b2
  have b03 := nxt b02 b3
  have R3 := hide (now_ h b03)
  have K3 := hide (now_ k b03)
  have at1 := (at1.to b2).to b3
  have at2 := at2.to b3
  have At1 := hide at1
  have At2 := hide at2
  have At3 := hide at3
  have Rs3 := hide rs3
  have B3 := hide b03
  have Hle : Hid (w.heap.size ≤ w2.heap.size) := by show _ ≤ _; omega
  have Hne1 : Hid (w.heap.size ≠ w2.heap.size) := by show _ ≠ _; omega
  have Hne2 : Hid (w1.heap.size ≠ w2.heap.size) := by show _ ≠ _; omega
  obtain ⟨e1_0, e1_1⟩ := at1
  obtain ⟨e2_0, e2_1⟩ := at2
  obtain ⟨e3_0, e3_1⟩ := at3
  clear h k b1 b2 b3 b02 b03 z1 z2 z3 rs3
  cases hca : isCx n xs
  · have Hca := hide hca
    have Hok : Hid (sameOk n m xs ys = false) := by show _ = _; unfold sameOk; rw [hca]; rfl
    clear hca
    go_enter Try.func75, Try.ntmps75
    go_wp2_with fail
    clear hW1 hW2 hW3
    refine (isComplexI n _ xs w3 R3.out (by omega)).mono ?_
    rw [Hca.out]
    rintro e w4 ⟨rfl, b4⟩
    obtain ⟨q4_0, q4_1⟩ := At3.out.to b4
    obtain ⟨_, f40, f41⟩ := (Rs3.out).to b4
    have hr4 : w2.heap.size < w4.heap.size := ((Rs3.out).to b4).lt
    have B4 := hide (nxt B3.out b4)
    clear b4 e1_0 e1_1 e2_0 e2_1 e3_0 e3_1
    go_wp2
    refine bodyPost_ret (v := .tuple #[.agg #[.int .i64 0, .slice none 0 0], .bool false]) (by simp [results, Try.results75, go_sem, q4_0, q4_1]) rfl ?_
    exact retCB_no Hok.out (below_store B4.out Hle.out _ _)
  have Hca := hide hca
  cases hcb : isCx m ys
  · have Hcb := hide hcb
    have Hok : Hid (sameOk n m xs ys = false) := by show _ = _; unfold sameOk; rw [hca, hcb]; rfl
    clear hca hcb
    go_enter Try.func75, Try.ntmps75
    go_wp2_with fail
    clear hW1 hW2 hW3
    refine (isComplexI n _ xs w3 R3.out (by omega)).mono ?_
    rw [Hca.out]
    rintro e w4 ⟨rfl, b4⟩
    have R4 := hide (now_ R3.out b4)
    have K4 := hide (now_ K3.out b4)
    have At1_4 := hide (At1.out.to b4)
    have At2_4 := hide (At2.out.to b4)
    have At3_4 := hide (At3.out.to b4)
    have Rs3_4 := hide (Rs3.out.to b4)
    have B4 := hide (nxt B3.out b4)
    obtain ⟨p4_0, p4_1⟩ := At2_4.out
    clear b4 e1_0 e1_1 e2_0 e2_1 e3_0 e3_1
    go_wp2_with fail
    refine (isComplexI m _ ys w4 K4.out (by omega)).mono ?_
    rw [Hcb.out]
    rintro e w5 ⟨rfl, b5⟩
    obtain ⟨q5_0, q5_1⟩ := At3_4.out.to b5
    obtain ⟨_, f50, f51⟩ := (Rs3_4.out).to b5
    have hr5 : w2.heap.size < w5.heap.size := ((Rs3_4.out).to b5).lt
    have B5 := hide (nxt B4.out b5)
    clear b5 p4_0 p4_1
    go_wp2
    refine bodyPost_ret (v := .tuple #[.agg #[.int .i64 0, .slice none 0 0], .bool false]) (by simp [results, Try.results75, go_sem, q5_0, q5_1]) rfl ?_
    exact retCB_no Hok.out (below_store B5.out Hle.out _ _)
  have Hcb := hide hcb
  by_cases hnm : ¬ (n = m)
  · skip
    have Hok : Hid (sameOk n m xs ys = false) := by show _ = _; unfold sameOk; rw [hca, hcb, decide_eq_false hnm]; rfl
    have hq : (n != m) = true := by simp [hnm]
    clear hca hcb hnm
    go_enter Try.func75, Try.ntmps75
    go_wp2_with fail
    clear hW1 hW2 hW3
    refine (isComplexI n _ xs w3 R3.out (by omega)).mono ?_
    rw [Hca.out]
    rintro e w4 ⟨rfl, b4⟩
    have R4 := hide (now_ R3.out b4)
    have K4 := hide (now_ K3.out b4)
    have At1_4 := hide (At1.out.to b4)
    have At2_4 := hide (At2.out.to b4)
    have At3_4 := hide (At3.out.to b4)
    have Rs3_4 := hide (Rs3.out.to b4)
    have B4 := hide (nxt B3.out b4)
    obtain ⟨p4_0, p4_1⟩ := At2_4.out
    clear b4 e1_0 e1_1 e2_0 e2_1 e3_0 e3_1
    go_wp2_with fail
    refine (isComplexI m _ ys w4 K4.out (by omega)).mono ?_
    rw [Hcb.out]
    rintro e w5 ⟨rfl, b5⟩
    obtain ⟨q5_0, q5_1⟩ := At3_4.out.to b5
    obtain ⟨_, f50, f51⟩ := (Rs3_4.out).to b5
    have hr5 : w2.heap.size < w5.heap.size := ((Rs3_4.out).to b5).lt
    obtain ⟨a5_0, a5_1⟩ := At1_4.out.to b5
    obtain ⟨p5_0, p5_1⟩ := At2_4.out.to b5
    have B5 := hide (nxt B4.out b5)
    clear b5 p4_0 p4_1
    go_wp2
    refine bodyPost_ret (v := .tuple #[.agg #[.int .i64 0, .slice none 0 0], .bool false]) (by simp [results, Try.results75, go_sem, q5_0, q5_1]) rfl ?_
    exact retCB_no Hok.out (below_store B5.out Hle.out _ _)
  have hnm := Decidable.not_not.1 hnm
  have Hok : Hid (sameOk n m xs ys = true) := by show _ = _; unfold sameOk; rw [hca, hcb, decide_eq_true hnm]; rfl
  have hq : (n != m) = false := by simp [hnm]
  have Hnm := hide hnm
  clear hca hcb hnm
  have ho := and_fams45 (faceP xs) (faceP ys)
  go_enter Try.func75, Try.ntmps75
  go_wp2_with fail
  clear hW1 hW2 hW3
  refine (isComplexI n _ xs w3 R3.out (by omega)).mono ?_
  rw [Hca.out]
  rintro e w4 ⟨rfl, b4⟩
  have R4 := hide (now_ R3.out b4)
  have K4 := hide (now_ K3.out b4)
  have At1_4 := hide (At1.out.to b4)
  have At2_4 := hide (At2.out.to b4)
  have At3_4 := hide (At3.out.to b4)
  have Rs3_4 := hide (Rs3.out.to b4)
  have B4 := hide (nxt B3.out b4)
  obtain ⟨p4_0, p4_1⟩ := At2_4.out
  clear b4 e1_0 e1_1 e2_0 e2_1 e3_0 e3_1
  go_wp2_with fail
  refine (isComplexI m _ ys w4 K4.out (by omega)).mono ?_
  rw [Hcb.out]
  rintro e w5 ⟨rfl, b5⟩
  obtain ⟨a5_0, a5_1⟩ := At1_4.out.to b5
  obtain ⟨p5_0, p5_1⟩ := At2_4.out.to b5
  have R5 := hide (now_ R4.out b5)
  have K5 := hide (now_ K4.out b5)
  have At1_5 := hide (At1_4.out.to b5)
  have At2_5 := hide (At2_4.out.to b5)
  have Rs3_5 := hide (Rs3_4.out.to b5)
  have B5 := hide (nxt B4.out b5)
  clear b5 p4_0 p4_1
  have Sx : Hid (Below w.heap.size w w5.drew ∧ Res w2.heap.size w5.drew) := ⟨B5.out.drew, by have h := Rs3_5.out; exact h⟩
  have hK : Hid (∀ W W' : World, (AtC W w.heap.size (.int .i64 n) (.slice A xs.length c) ∧ AtC W w1.heap.size (.int .i64 m) (.slice A' ys.length c') ∧ Hid (Below w.heap.size w W ∧ Res w2.heap.size W)) → Below W.heap.size W W' → (AtC W' w.heap.size (.int .i64 n) (.slice A xs.length c) ∧ AtC W' w1.heap.size (.int .i64 m) (.slice A' ys.length c') ∧ Hid (Below w.heap.size w W' ∧ Res w2.heap.size W'))) := fun W W' h k => ⟨h.1.to k, h.2.1.to k, nxt h.2.2.1 k, h.2.2.2.to k⟩
  have hKs : Hid (∀ (W : World) (x y : Value), (AtC W w.heap.size (.int .i64 n) (.slice A xs.length c) ∧ AtC W w1.heap.size (.int .i64 m) (.slice A' ys.length c') ∧ Hid (Below w.heap.size w W ∧ Res w2.heap.size W)) → (AtC ((W.setCell ⟨w2.heap.size, 0, none⟩ x).setCell ⟨w2.heap.size, 1, none⟩ y) w.heap.size (.int .i64 n) (.slice A xs.length c) ∧ AtC ((W.setCell ⟨w2.heap.size, 0, none⟩ x).setCell ⟨w2.heap.size, 1, none⟩ y) w1.heap.size (.int .i64 m) (.slice A' ys.length c') ∧ Hid (Below w.heap.size w ((W.setCell ⟨w2.heap.size, 0, none⟩ x).setCell ⟨w2.heap.size, 1, none⟩ y) ∧ Res w2.heap.size ((W.setCell ⟨w2.heap.size, 0, none⟩ x).setCell ⟨w2.heap.size, 1, none⟩ y)))) := fun W x y h => ⟨h.1.store Hne1.out x y, h.2.1.store Hne2.out x y, below_store h.2.2.1 Hle.out x y, h.2.2.2.store x y⟩
  have S5 : AtC w5 w.heap.size (.int .i64 n) (.slice A xs.length c) ∧ AtC w5 w1.heap.size (.int .i64 m) (.slice A' ys.length c') ∧ Hid (Below w.heap.size w w5 ∧ Res w2.heap.size w5) := ⟨At1_5.out, At2_5.out, B5.out, Rs3_5.out⟩
  go_wp2
  go_region_held3 (fun W => ((W.cell? ⟨w.heap.size, 0, none⟩ = some (.int .i64 n) ∧ W.cell? ⟨w.heap.size, 1, none⟩ = some (.slice A xs.length c)) ∧ (W.cell? ⟨w1.heap.size, 0, none⟩ = some (.int .i64 m) ∧ W.cell? ⟨w1.heap.size, 1, none⟩ = some (.slice A' ys.length c')) ∧ Hid (Below w.heap.size w W ∧ Res w2.heap.size W))) (first | exact ⟨⟨a5_0, a5_1⟩, ⟨p5_0, p5_1⟩, Sx⟩ | exact hK.out _ _ S5 (by assumption) | exact hK.out _ _ (by assumption) (by assumption) | exact hKs.out _ _ _ (by assumption) | assumption | go_keep) (first | (go_at_call 114; rename_i hS _ _; have hrx := now_ R0.out hS.2.2.1; have hry := now_ K0.out hS.2.2.1; first | (go_fit (facesInI n _ xs _ hrx (by omega) Hca.out); rintro e wq ⟨rfl, bq⟩) | (go_fit (facesInI m _ ys _ hry (by omega) Hcb.out); rintro e wq ⟨rfl, bq⟩)) | (go_at_call 124; rename_i hS _ _; have hRs := hS.2.2.2; have hBs := hS.2.2.1; refine (complexOfI n (fun s => faceP xs s && faceP ys s) _).mono ?_; rintro e w9 ⟨v9, rfl, o9, b9⟩; obtain ⟨A9, c9, rfl⟩ := own_shape o9; obtain ⟨⟨q0, q1, h90, h91⟩, f90, f91⟩ := hRs.to b9; have h9r := (hRs.to b9).lt))
  all_goals (
    have Hfar := hide (fun j hj => Nat.lt_of_lt_of_le hRs.lt (own_block o9 j hj).1)
    have Ho := hide (own_mono o9 hBs.size)
    have Hb := hide (nxt hBs b9)
    clear o9 b9 hRs hBs
    go_wp2
    refine bodyPost_ret (v := .tuple #[.agg #[.int .i64 (n), .slice A9 (zs (maxOf (fun s => faceP xs s && faceP ys s))).length c9], .bool true]) (by simp [results, Try.results75, go_sem, h90, h91]) rfl ?_
    refine retCB_yes Hok.out (own_setNe (own_setNe Ho.out (fun j hj => by have := Hfar.out j hj; omega) _ _) (fun j hj => by have := Hfar.out j hj; omega) _ _) (below_store Hb.out Hle.out _ _))
end

/- Plain laws for FnParts: star and deletion make up a complex, and what both have in common is the link's. -/
section
theorem setOk_parts {n : Int} {xs : List Int} {t : Int} (h : setOk n xs t = true) : isCx n xs = true ∧ isSetB n t = true := by
  unfold setOk at h
  rw [Bool.and_eq_true] at h
  exact h
theorem sameOk_parts {n m : Int} {xs ys : List Int} (h : sameOk n m xs ys = true) : isCx n xs = true ∧ isCx m ys = true ∧ n = m := by
  unfold sameOk at h
  rw [Bool.and_eq_true, Bool.and_eq_true] at h
  exact ⟨h.1.1, h.1.2, of_decide_eq_true h.2⟩
theorem sameOk_mk {n : Int} {xs ys : List Int} (h : isCx n xs = true) (k : isCx n ys = true) : sameOk n n xs ys = true := by
  unfold sameOk
  rw [h, k, decide_eq_true rfl]
  rfl
/-- A face of few points. -/
theorem face_lt {n : Int} {xs : List Int} (h : isCx n xs = true) {s : Nat} (k : faceP xs s = true) : s < 2 ^ n.toNat := by
  have h1 := (isSetB_yes (faceP_set h k)).2.2.2
  have e : ((2 ^ n.toNat : Nat) : Int) = (2 : Int) ^ n.toNat := by rw [Int.natCast_pow]; rfl
  rw [← e] at h1
  exact Int.ofNat_lt.1 h1
theorem star_eq {n : Int} {xs : List Int} (h : isCx n xs = true) (s t : Nat) : pickTo (starP (faceP xs) s) (2 ^ n.toNat) t = faceP xs (t ||| s) := by
  unfold pickTo starP
  cases hc : faceP xs (t ||| s)
  · simp
  · have := face_lt h (faceP_down (sub_or_l t s) hc)
    simp [this]
theorem star_Down {n : Int} {xs : List Int} (h : isCx n xs = true) (s : Nat) : Down (pickTo (starP (faceP xs) s) (2 ^ n.toNat)) := by
  intro a b _ _ hab hb
  rw [star_eq h] at *
  refine faceP_down ?_ hb
  have h1 : a &&& b = a := sub_iff.1 hab
  apply sub_iff.2
  apply Nat.eq_of_testBit_eq
  intro i
  have h2 := congrArg (fun z => Nat.testBit z i) h1
  simp only [Nat.testBit_and] at h2
  simp only [Nat.testBit_and, Nat.testBit_or]
  cases ha : a.testBit i <;> cases hbt : b.testBit i <;> cases hs : s.testBit i <;> simp [ha, hbt] at h2 ⊢
theorem del_Down {xs : List Int} (s : Nat) : Down (delP (faceP xs) s) := by
  intro a b _ _ hab hb
  unfold delP at *
  rw [Bool.and_eq_true] at *
  refine ⟨faceP_down hab hb.1, ?_⟩
  cases hc : sub s a
  · rfl
  · rw [sub_trans2 hc hab] at hb
    exact hb.2
theorem star_set {n : Int} {xs : List Int} (h : isCx n xs = true) (s : Nat) : ∀ u, u < 64 → pickTo (starP (faceP xs) s) (2 ^ n.toNat) u = true → isSetB n (u : Int) = true := by
  intro u _ hu
  rw [star_eq h] at hu
  exact faceP_set h (faceP_down (sub_or_l u s) hu)
theorem del_set {n : Int} {xs : List Int} (h : isCx n xs = true) (s : Nat) : ∀ u, u < 64 → delP (faceP xs) s u = true → isSetB n (u : Int) = true := by
  intro u _ hu
  unfold delP at hu
  rw [Bool.and_eq_true] at hu
  exact faceP_set h hu.1
abbrev starL (n : Int) (xs : List Int) (s : Nat) : List Nat := maxOf (pickTo (starP (faceP xs) s) (2 ^ n.toNat))
abbrev delL (xs : List Int) (s : Nat) : List Nat := maxOf (delP (faceP xs) s)
theorem star_cx {n : Int} {xs : List Int} (h : isCx n xs = true) (s : Nat) : isCx n (zs (starL n xs s)) = true := max_cx (cx_n h) (star_set h s)
theorem del_cx {n : Int} {xs : List Int} (h : isCx n xs = true) (s : Nat) : isCx n (zs (delL xs s)) = true := max_cx (cx_n h) (del_set h s)
/-- Star and deletion make up the complex. -/
theorem star_del {n : Int} {xs : List Int} (h : isCx n xs = true) (s : Nat) : zs (maxOf fun u => faceP (zs (starL n xs s)) u || faceP (zs (delL xs s)) u) = xs := by
  have e : maxOf (fun u => faceP (zs (starL n xs s)) u || faceP (zs (delL xs s)) u) = maxOf (faceP xs) := by
    apply maxOf_congr
    intro u hu
    rw [faceP_max (star_Down h s) hu, faceP_max (del_Down s) hu, star_eq h]
    unfold delP
    cases hs : sub s u
    · cases hp : faceP xs u
      · cases hq : faceP xs (u ||| s)
        · rfl
        · rw [faceP_down (sub_or_l u s) hq] at hp
          cases hp
      · simp
    · rw [or_sub hs]
      simp
  rw [e]
  exact cx_max h
theorem one_and : ((List.range 64).all fun s => (List.range 64).all fun u => !(pc s == 1) || ((u &&& s == 0) == !sub s u)) = true := by decide +kernel
/-- What both have in common is the link's, if the set is a point. -/
theorem star_meet {n : Int} {xs : List Int} (h : isCx n xs = true) {s : Nat} (hs : s < 64) (h1 : pc s = 1) : maxOf (fun u => faceP (zs (starL n xs s)) u && faceP (zs (delL xs s)) u) = maxOf (linkP (faceP xs) s) := by
  apply maxOf_congr
  intro u hu
  rw [faceP_max (star_Down h s) hu, faceP_max (del_Down s) hu, star_eq h]
  unfold delP linkP
  have h2 := List.all_eq_true.1 (List.all_eq_true.1 one_and s (List.mem_range.2 hs)) u (List.mem_range.2 hu)
  rw [h1] at h2
  have h3 : (u &&& s == 0) = !sub s u := by simpa using h2
  rw [h3]
  cases hq : faceP xs (u ||| s)
  · simp
  · rw [faceP_down (sub_or_l u s) hq]
    simp

/-! ### what the law asks -/
theorem parts_same {n : Int} {xs : List Int} {t : Int} (h : setOk n xs t = true) : sameOk (cbN (setOk n xs t) n) (cbN (setOk n xs t) n) (cbXs (setOk n xs t) (starL n xs t.toNat)) (cbXs (setOk n xs t) (delL xs t.toNat)) = true := by
  have hc := (setOk_parts h).1
  rw [h]
  exact sameOk_mk (star_cx hc _) (del_cx hc _)
theorem parts_back {n : Int} {xs : List Int} {t : Int} (h : setOk n xs t = true) : maxOf (fun u => faceP (cbXs (setOk n xs t) (starL n xs t.toNat)) u || faceP (cbXs (setOk n xs t) (delL xs t.toNat)) u) = maxOf (faceP xs) ∧ zs (maxOf (faceP xs)) = xs := by
  have hc := (setOk_parts h).1
  have h1 := star_del hc t.toNat
  have h2 := cx_max hc
  rw [h]
  refine ⟨?_, h2⟩
  have h3 := h1.trans h2.symm
  have inj : ∀ a b : List Nat, zs a = zs b → a = b := by
    intro a b hab
    have := congrArg (List.map Int.toNat) hab
    simpa [zs, List.map_map, Function.comp_def] using this
  exact inj _ _ h3
theorem parts_meet {n : Int} {xs : List Int} {t : Int} (h : setOk n xs t = true) (h1 : sizeOf t = 1) : maxOf (fun u => faceP (cbXs (setOk n xs t) (starL n xs t.toNat)) u && faceP (cbXs (setOk n xs t) (delL xs t.toNat)) u) = maxOf (linkP (faceP xs) t.toNat) := by
  obtain ⟨hc, hs⟩ := setOk_parts h
  have h64 := isSetB_64 hs
  obtain ⟨m, rfl⟩ := Int.eq_ofNat_of_zero_le h64.1
  have hm : m < 64 := by omega
  rw [sizeOf_yes hm] at h1
  rw [h]
  exact star_meet hc hm (by rw [Int.toNat_natCast]; omega)
/-- Faces of a union and a meet. -/
theorem two_faces {n m : Int} {xs ys : List Int} (h : sameOk n m xs ys = true) :
    (facesOf (cbN (sameOk n m xs ys) n) (cbXs (sameOk n m xs ys) (maxOf fun s => faceP xs s || faceP ys s))).length + (facesOf (cbN (sameOk n m xs ys) n) (cbXs (sameOk n m xs ys) (maxOf fun s => faceP xs s && faceP ys s))).length = (facesOf n xs).length + (facesOf m ys).length := by
  obtain ⟨hx, hy, rfl⟩ := sameOk_parts h
  rw [h]
  show (facesOf n (zs (maxOf fun s => faceP xs s || faceP ys s))).length + (facesOf n (zs (maxOf fun s => faceP xs s && faceP ys s))).length = _
  rw [max_faces (cx_n hx), max_faces (cx_n hx), facesOf_yes hx, facesOf_yes hy, listOf_two]
  · intro u _ hu
    rw [Bool.and_eq_true] at hu
    exact faceP_set hx hu.1
  · intro a b _ _ hab hb
    rw [Bool.and_eq_true] at *
    exact ⟨faceP_down hab hb.1, faceP_down hab hb.2⟩
  · intro u _ hu
    rw [Bool.or_eq_true] at hu
    rcases hu with hu | hu
    · exact faceP_set hx hu
    · exact faceP_set hy hu
  · intro a b _ _ hab hb
    rw [Bool.or_eq_true] at *
    rcases hb with hb | hb
    · exact .inl (faceP_down hab hb)
    · exact .inr (faceP_down hab hb)
end

/- Walks: SkeletonOf in the program; pickSets for a closure that draws. -/
section
open Go.RowKit

set_option maxRecDepth 100000 in
theorem pickSetsD (f : Nat) (caps : Array Value) (P : Nat → Bool) (w : World)
    (hcf : ∀ (args : Array Value) (W : World), (callFunc f args).run Try.prog W = .ok (.enter f args) W)
    (hf : ∀ s : Nat, s < 64 → ∀ q, Calls Try.prog f (#[.int .i64 (s : Int)] ++ caps) (w.drewN q) fun e w' => e = .returned (.bool (P s)) ∧ ∃ m, w' = w.drewN m) :
    Calls Try.prog 128 #[.int .i64 6, .func (.func f) #[] caps] w fun e w' => e = .returned (.int .u64 (fam P : Int)) ∧ ∃ m, w' = w.drewN m := by
  go_enter Try.func128, Try.ntmps128
  go_wp2
  go_loopw [5, 6] (fun a i wr => ∃ k q : Nat, k ≤ 64 ∧ i = .int .i64 k ∧ a = .int .u64 (fam (pickTo P k) : Int) ∧ wr = w.drewN q) (fun _ i _ => 64 - (intOf i).toNat)
  case atStart => exact ⟨0, 0, by omega, rfl, by rw [pick_zero]; rfl, rfl⟩
  case round =>
    obtain ⟨k, q, hk, rfl, rfl, rfl⟩ := hrel
    by_cases hlt : k < 64
    · have Ho := hide (or_fam (pickTo P k) k hlt)
      have Hf := hide (hf k hlt q)
      have Hcf := hide hcf
      clear hf hcf
      cases hP : P k
      · have Hn := hide (pick_no hP)
        rw [hP] at Hf
        clear hP
        go_wp2_with fail
        rw [Hcf.out]
        refine Calls.mono Hf.out ?_
        rintro e w' ⟨rfl, m, rfl⟩
        go_wp2
        go_roundw
        case rel => exact ⟨k + 1, _, by omega, by go_num, by rw [Hn.out], rfl⟩
        case measure => simp [intOf]; omega
      · have Hy := hide (pick_yes hP)
        rw [hP] at Hf
        clear hP
        go_wp2_with fail
        rw [Hcf.out]
        refine Calls.mono Hf.out ?_
        rintro e w' ⟨rfl, m, rfl⟩
        go_wp2
        go_roundw
        case rel => exact ⟨k + 1, _, by omega, by go_num, by rw [← Hy.out, ← Ho.out], rfl⟩
        case measure => simp [intOf]; omega
    · obtain rfl : k = 64 := by omega
      have H : Hid (fam (pickTo P 64) = fam P) := fam_congr (fun s hs => by unfold pickTo; rw [decide_eq_true hs]; rfl)
      go_wp2
      go_ret
      exact ⟨ret_int (by rw [H.out]), _, rfl⟩

theorem has_at (P : Nat → Bool) (t : Nat) (ht : t < 64) (w : World) : Calls Try.prog 130 #[.int .u64 (fam P : Int), .int .i64 (t : Int)] w fun e w' => e = .returned (.bool (P t)) ∧ w = w' := by
  have h := hasSetI (fam P) t (fam_lt P) ht w
  rwa [fam_bit, decide_eq_true ht, Bool.true_and] at h
theorem sizeOf_at2 (s : Nat) (hs : s < 64) (w : World) : Calls Try.prog 94 #[.int .i64 (s : Int)] w fun e w' => e = .returned (.int .i64 (pc s : Int)) ∧ w = w' := by
  have h := sizeOfI (s : Int) w
  rwa [sizeOf_yes hs] at h
def skelP (P : Nat → Bool) (k : Int) (t : Nat) : Bool := P t && decide ((pc t : Int) ≤ k)
theorem skel1I (P : Nat → Bool) (k : Int) (t : Nat) (ht : t < 64) (b1 b2 : Nat) (w : World) (q : Nat) (h1 : w.cell? ⟨b1, 0, none⟩ = some (.int .u64 (fam P : Int))) (h2 : w.cell? ⟨b2, 0, none⟩ = some (.int .i64 k)) :
    Calls Try.prog 161 #[.int .i64 (t : Int), .pointer (some ⟨b1, 0, none⟩), .pointer (some ⟨b2, 0, none⟩)] (w.drewN q) fun e w' => e = .returned (.bool (skelP P k t)) ∧ ∃ m, w' = w.drewN m := by
  cases hp : P t
  · have H : Hid (skelP P k t = false) := by show _ = _; unfold skelP; rw [hp]; rfl
    go_enter Try.func161, Try.ntmps161
    go_wp2
    go_quiet ((first | (go_at_call 130; exact quiet_add_left (has_at _ _ ht _)) | (go_at_call 94; exact quiet_add_left (sizeOf_at2 _ ht _))))
    go_wp2
    go_ret
    exact ⟨ret_bool H.out.symm, _, World.drewN_drewN ..⟩
  · have H : Hid (skelP P k t = decide ((pc t : Int) ≤ k)) := by show _ = _; unfold skelP; rw [hp]; rfl
    go_enter Try.func161, Try.ntmps161
    go_wp2
    go_quiet ((first | (go_at_call 130; exact quiet_add_left (has_at _ _ ht _)) | (go_at_call 94; exact quiet_add_left (sizeOf_at2 _ ht _))))
    go_wp2
    go_ret
    exact ⟨ret_bool H.out.symm, _, World.drewN_drewN ..⟩
theorem enter_skel1 (args : Array Value) (W : World) : (callFunc 161 args).run Try.prog W = .ok (.enter 161 args) W := call_enter Try.func161 (by kernel_rfl) rfl args W
theorem skeletonInI (P : Nat → Bool) (k : Int) (w : World) : Calls Try.prog 134 #[.int .u64 (fam P : Int), .int .i64 k] w fun e w' => e = .returned (.int .u64 (fam (skelP P k) : Int)) ∧ Below w.heap.size w w' := by
  have Hp := hide (fun (W : World) (h1 : W.cell? ⟨w.heap.size, 0, none⟩ = some (.int .u64 (fam P : Int))) (h2 : W.cell? ⟨w.heap.size + 1, 0, none⟩ = some (.int .i64 k)) => pickSetsD 161 #[.pointer (some ⟨w.heap.size, 0, none⟩), .pointer (some ⟨w.heap.size + 1, 0, none⟩)] (skelP P k) W enter_skel1 (fun t ht q => skel1I P k t ht _ _ W q h1 h2))
  go_enter Try.func134, Try.ntmps134
  go_wp2_with fail
  refine (Hp.out _ (by simp [go_sem]) (by simp [go_sem])).mono ?_
  rintro e w1 ⟨rfl, m, rfl⟩
  go_wp2
  go_ret
  exact ⟨rfl, below_drewN ((below_alloc w _).alloc (by (try simp only [World.size_alloc]); omega) _) _⟩
def skOk (n : Int) (xs : List Int) (t : Int) : Bool := isCx n xs && decide (0 ≤ t ∧ t ≤ 6)
theorem skeletonOfI (n : Int) (v : Value) (xs : List Int) (t : Int) (w : World) (h : IntsAt w w.heap.size v xs) (hl : xs.length ≤ 1073741824) :
    Calls Try.prog 67 #[.agg #[.int .i64 n, v], .int .i64 t] w fun e w' => RetCB 3 w (cbN (skOk n xs t) n) (cbXs (skOk n xs t) (maxOf (skelP (faceP xs) t))) (skOk n xs t) e w' := by
  obtain ⟨A, c, rfl⟩ := reads_shape h
  obtain ⟨w1, hW1, at1, b1, z1⟩ := boxC w (.int .i64 n) (.slice A xs.length c) 42
  obtain ⟨w2, hW2, at2, rs2, b2, z2⟩ := boxRes w1 42
  have b02 := nxt b1 b2
  have R0 := hide h
  have R2 := hide (now_ h b02)
  have at1 := at1.to b2
  have At1 := hide at1
  have Rs2 := hide rs2
  have B2 := hide b02
  have hne : w.heap.size ≠ w1.heap.size := by omega
  have Hle : Hid (w.heap.size ≤ w1.heap.size) := by show _ ≤ _; omega
  obtain ⟨e1_0, e1_1⟩ := at1
  obtain ⟨e2_0, e2_1⟩ := at2
  have At2 : Hid (AtC w2 w1.heap.size (.int .i64 0) (.slice none 0 0)) := ⟨e2_0, e2_1⟩
  clear h b1 b2 b02 z1 z2 rs2
  cases hcx : isCx n xs
  · have Hcx := hide hcx
    clear hcx
    have Hok : Hid (skOk n xs t = false) := by show _ = _; unfold skOk; rw [Hcx.out]; rfl
    go_enter Try.func67, Try.ntmps67
    go_wp2_with fail
    clear hW1 hW2
    refine (isComplexI n _ xs w2 R2.out hl).mono ?_
    rw [Hcx.out]
    rintro e w3 ⟨rfl, b3⟩
    obtain ⟨e3_0, e3_1⟩ := At2.out.to b3
    obtain ⟨_, f0, f1⟩ := Rs2.out.to b3
    have hr : w1.heap.size < w3.heap.size := (Rs2.out.to b3).lt
    have B3 := hide (nxt B2.out b3)
    clear b3 e1_0 e1_1 e2_0 e2_1
    go_wp2
    refine bodyPost_ret (v := .tuple #[.agg #[.int .i64 0, .slice none 0 0], .bool false]) (by simp [results, Try.results67, go_sem, e3_0, e3_1]) rfl ?_
    exact retCB_no Hok.out (below_store B3.out Hle.out _ _)
  · have Hcx := hide hcx
    clear hcx
    by_cases ht : 0 ≤ t ∧ t ≤ 6
    · have Hok : Hid (skOk n xs t = true) := by show _ = _; unfold skOk; rw [Hcx.out, decide_eq_true ht]; rfl
      obtain ⟨ht0, ht6⟩ := ht
      go_enter Try.func67, Try.ntmps67
      go_wp2_with fail
      clear hW1 hW2
      refine (isComplexI n _ xs w2 R2.out hl).mono ?_
      rw [Hcx.out]
      rintro e w3 ⟨rfl, b3⟩
      obtain ⟨e13_0, e13_1⟩ := At1.out.to b3
      have B3 := hide (nxt B2.out b3)
      have Sx : Hid (Below w.heap.size w w3.drew ∧ Res w1.heap.size w3.drew) := ⟨(nxt B2.out b3).drew, by have h := Rs2.out.to b3; exact h⟩
      have hK : Hid (∀ W W' : World, (AtC W w.heap.size (.int .i64 n) (.slice A xs.length c) ∧ Hid (Below w.heap.size w W ∧ Res w1.heap.size W)) → Below W.heap.size W W' → (AtC W' w.heap.size (.int .i64 n) (.slice A xs.length c) ∧ Hid (Below w.heap.size w W' ∧ Res w1.heap.size W'))) := fun W W' h k => ⟨h.1.to k, nxt h.2.1 k, h.2.2.to k⟩
      have hKs : Hid (∀ (W : World) (x y : Value), (AtC W w.heap.size (.int .i64 n) (.slice A xs.length c) ∧ Hid (Below w.heap.size w W ∧ Res w1.heap.size W)) → (AtC ((W.setCell ⟨w1.heap.size, 0, none⟩ x).setCell ⟨w1.heap.size, 1, none⟩ y) w.heap.size (.int .i64 n) (.slice A xs.length c) ∧ Hid (Below w.heap.size w ((W.setCell ⟨w1.heap.size, 0, none⟩ x).setCell ⟨w1.heap.size, 1, none⟩ y) ∧ Res w1.heap.size ((W.setCell ⟨w1.heap.size, 0, none⟩ x).setCell ⟨w1.heap.size, 1, none⟩ y)))) := fun W x y h => ⟨h.1.store hne x y, below_store h.2.1 Hle.out x y, h.2.2.store x y⟩
      clear b3 e1_0 e1_1 e2_0 e2_1
      go_wp2
      go_region_held3 (fun W => ((W.cell? ⟨w.heap.size, 0, none⟩ = some (.int .i64 n) ∧ W.cell? ⟨w.heap.size, 1, none⟩ = some (.slice A xs.length c)) ∧ Hid (Below w.heap.size w W ∧ Res w1.heap.size W))) (first | exact ⟨⟨e13_0, e13_1⟩, Sx⟩ | exact hK.out _ _ (by assumption) (by assumption) | exact hKs.out _ _ _ (by assumption) | assumption | go_keep) (first | (go_at_call 114; refine (facesInI n _ xs _ (by rename_i hS _ _; exact now_ R0.out hS.2.1) hl Hcx.out).mono ?_; rintro e wq ⟨rfl, bq⟩) | (go_at_call 134; refine (skeletonInI _ t _).mono ?_; rintro e wq ⟨rfl, bq⟩) | (go_at_call 124; rename_i hS _ _; have hRs := hS.2.2; have hBs := hS.2.1; refine (complexOfI n (skelP (faceP xs) t) _).mono ?_; rintro e w9 ⟨v9, rfl, o9, b9⟩; obtain ⟨A9, c9, rfl⟩ := own_shape o9; obtain ⟨⟨q0, q1, h90, h91⟩, f90, f91⟩ := hRs.to b9; have h9r := (hRs.to b9).lt))
      have Hfar := hide (fun k hk => Nat.lt_of_lt_of_le hRs.lt (own_block o9 k hk).1)
      have Ho := hide (own_mono o9 hBs.size)
      have Hb := hide (nxt hBs b9)
      clear o9 b9 hRs hBs
      go_wp2
      refine bodyPost_ret (v := .tuple #[.agg #[.int .i64 n, .slice A9 (zs (maxOf (skelP (faceP xs) t))).length c9], .bool true]) (by simp [results, Try.results67, go_sem, h90, h91]) rfl ?_
      refine retCB_yes Hok.out (own_setNe (own_setNe Ho.out (fun k hk => by have := Hfar.out k hk; omega) _ _) (fun k hk => by have := Hfar.out k hk; omega) _ _) (below_store Hb.out Hle.out _ _)
    · have Hok : Hid (skOk n xs t = false) := by show _ = _; unfold skOk; rw [Hcx.out, decide_eq_false ht]; rfl
      rcases Int.lt_or_le t 0 with h | h
      · clear ht
        go_enter Try.func67, Try.ntmps67
        go_wp2_with fail
        clear hW1 hW2
        refine (isComplexI n _ xs w2 R2.out hl).mono ?_
        rw [Hcx.out]
        rintro e w3 ⟨rfl, b3⟩
        obtain ⟨e3_0, e3_1⟩ := At2.out.to b3
        obtain ⟨e13_0, e13_1⟩ := At1.out.to b3
        obtain ⟨_, f0, f1⟩ := Rs2.out.to b3
        have hr : w1.heap.size < w3.heap.size := (Rs2.out.to b3).lt
        have B3 := hide (nxt B2.out b3)
        clear b3 e1_0 e1_1 e2_0 e2_1
        go_wp2
        refine bodyPost_ret (v := .tuple #[.agg #[.int .i64 0, .slice none 0 0], .bool false]) (by simp [results, Try.results67, go_sem, e3_0, e3_1]) rfl ?_
        exact retCB_no Hok.out (below_store B3.out Hle.out _ _)
      · have h2 : 6 < t := by omega
        clear ht
        go_enter Try.func67, Try.ntmps67
        go_wp2_with fail
        clear hW1 hW2
        refine (isComplexI n _ xs w2 R2.out hl).mono ?_
        rw [Hcx.out]
        rintro e w3 ⟨rfl, b3⟩
        obtain ⟨e3_0, e3_1⟩ := At2.out.to b3
        obtain ⟨e13_0, e13_1⟩ := At1.out.to b3
        obtain ⟨_, f0, f1⟩ := Rs2.out.to b3
        have hr : w1.heap.size < w3.heap.size := (Rs2.out.to b3).lt
        have B3 := hide (nxt B2.out b3)
        clear b3 e1_0 e1_1 e2_0 e2_1
        go_wp2
        refine bodyPost_ret (v := .tuple #[.agg #[.int .i64 0, .slice none 0 0], .bool false]) (by simp [results, Try.results67, go_sem, e3_0, e3_1]) rfl ?_
        exact retCB_no Hok.out (below_store B3.out Hle.out _ _)
end
end Go.Proofs.Ytmkacjpjcfffmaa
