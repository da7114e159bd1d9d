/- Walks: ConeOf in both. -/
import Derived.Test.YtmkacjpjcfffmabW49
namespace Go.Proofs.Ytmkacjpjcfffmab
open Go.RowKit

theorem coneOfI (n : Int) (v : Value) (xs : List Int) (w : World) (h : IntsAt w w.heap.size v xs) (hl : xs.length ≤ 1048576) :
    Calls Try.prog 34 #[.agg #[.int .i64 n, v]] w fun e w' => RetCB 3 w (cbN (joinOk n 1 xs [1]) (n + 1)) (cbXs (joinOk n 1 xs [1]) (maxOf (faceP (zs (joinL n xs [1]))))) (joinOk n 1 xs [1]) e w' := by
  have hj := fun (W : World) (a b : Value) (ha : IntsAt W W.heap.size a xs) (hb : IntsAt W W.heap.size b [1]) => joinOfI n a xs 1 b [1] W ha hb hl (by simp)
  generalize cbN (joinOk n 1 xs [1]) (n + 1) = N at hj ⊢
  generalize cbXs (joinOk n 1 xs [1]) (maxOf (faceP (zs (joinL n xs [1])))) = XS at hj ⊢
  generalize joinOk n 1 xs [1] = B at hj ⊢
  have Hj := hide hj
  obtain ⟨A, c, rfl⟩ := reads_shape h
  obtain ⟨w1, hW1, at1, b1, z1⟩ := boxC w (.int .i64 n) (.slice A xs.length c) 27
  obtain ⟨w2, hW2, at2, rs2, b2, z2⟩ := boxRes w1 27
  obtain ⟨w3, hW3, hr3, b3⟩ : ∃ W, w2.alloc (.cells #[.int .i64 1] 3) = W ∧ IntsAt W W.heap.size (.slice (some ⟨w2.heap.size, 0, none⟩) 1 1) [1] ∧ Below w2.heap.size w2 W := ⟨_, rfl, reads_new1 _ _ _, below_alloc _ _⟩
  have b02 := nxt b1 b2
  have b03 := nxt b02 b3
  have R3 := hide (now_ h b03)
  have Hr3 := hide hr3
  have Rs3 := hide (rs2.to b3)
  have B3 := hide b03
  have Hle : Hid (w.heap.size ≤ w1.heap.size) := by show _ ≤ _; omega
  have at1 := at1.to b2
  obtain ⟨e1_0, e1_1⟩ := at1
  clear h hj at2 rs2 b1 b2 b3 b02 b03 z1 z2 hr3
  go_enter Try.func34, Try.ntmps34
  go_wp2_with fail
  clear hW1 hW2 hW3
  refine (Hj.out w3 _ _ R3.out Hr3.out).mono ?_
  rintro e w9 ⟨v9, rfl, o9, b9⟩
  obtain ⟨A9, c9, rfl⟩ := own_shape o9
  obtain ⟨⟨q0, q1, h90, h91⟩, f90, f91⟩ := Rs3.out.to b9
  have h9r := (Rs3.out.to b9).lt
  have Hfar := hide (fun j hj => Nat.lt_of_lt_of_le Rs3.out.lt (own_block o9 j hj).1)
  have Ho := hide (own_mono o9 B3.out.size)
  have Hb := hide (nxt B3.out b9)
  clear o9 b9 e1_0 e1_1
  go_wp2
  refine bodyPost_ret (v := .tuple #[.agg #[.int .i64 N, .slice A9 XS.length c9], .bool B]) (by simp [results, Try.results34, go_sem, h90, h91]) rfl ?_
  exact ⟨_, rfl, own_setNe (own_setNe Ho.out (fun j hj => by have := Hfar.out j hj; omega) _ _) (fun j hj => by have := Hfar.out j hj; omega) _ _, below_store Hb.out Hle.out _ _⟩

theorem coneOfS (n : Int) (v : Value) (xs : List Int) (w : World) (h : IntsAt w w.heap.size v xs) (hl : xs.length ≤ 1048576) :
    Calls Try.prog 33 #[.agg #[.int .i64 n, v]] w fun e w' => RetCB 3 w (cbN (joinOk n 1 xs [1]) (n + 1)) (cbXs (joinOk n 1 xs [1]) (maxOf (faceP (zs (joinL n xs [1]))))) (joinOk n 1 xs [1]) e w' := by
  have hj := fun (W : World) (a b : Value) (ha : IntsAt W W.heap.size a xs) (hb : IntsAt W W.heap.size b [1]) => joinOfS n a xs 1 b [1] W ha hb hl (by simp)
  generalize cbN (joinOk n 1 xs [1]) (n + 1) = N at hj ⊢
  generalize cbXs (joinOk n 1 xs [1]) (maxOf (faceP (zs (joinL n xs [1])))) = XS at hj ⊢
  generalize joinOk n 1 xs [1] = B at hj ⊢
  have Hj := hide hj
  obtain ⟨A, c, rfl⟩ := reads_shape h
  obtain ⟨w1, hW1, at1, b1, z1⟩ := boxC w (.int .i64 n) (.slice A xs.length c) 27
  obtain ⟨w2, hW2, at2, rs2, b2, z2⟩ := boxRes w1 27
  obtain ⟨w3, hW3, hr3, b3⟩ : ∃ W, w2.alloc (.cells #[.int .i64 1] 3) = W ∧ IntsAt W W.heap.size (.slice (some ⟨w2.heap.size, 0, none⟩) 1 1) [1] ∧ Below w2.heap.size w2 W := ⟨_, rfl, reads_new1 _ _ _, below_alloc _ _⟩
  have b02 := nxt b1 b2
  have b03 := nxt b02 b3
  have R3 := hide (now_ h b03)
  have Hr3 := hide hr3
  have Rs3 := hide (rs2.to b3)
  have B3 := hide b03
  have Hle : Hid (w.heap.size ≤ w1.heap.size) := by show _ ≤ _; omega
  have at1 := at1.to b2
  obtain ⟨e1_0, e1_1⟩ := at1
  clear h hj at2 rs2 b1 b2 b3 b02 b03 z1 z2 hr3
  go_enter Try.func33, Try.ntmps33
  go_wp2_with fail
  clear hW1 hW2 hW3
  refine (Hj.out w3 _ _ R3.out Hr3.out).mono ?_
  rintro e w9 ⟨v9, rfl, o9, b9⟩
  obtain ⟨A9, c9, rfl⟩ := own_shape o9
  obtain ⟨w10, hW10, at10, b10, z10⟩ := boxC w9 (.int .i64 N) (.slice A9 XS.length c9) 27
  obtain ⟨e10_0, e10_1⟩ := at10
  obtain ⟨⟨q0, q1, h90, h91⟩, f90, f91⟩ := (Rs3.out.to b9).to b10
  have h9r := ((Rs3.out.to b9).to b10).lt
  have Hfar := hide (fun j hj => Nat.lt_of_lt_of_le Rs3.out.lt (own_block o9 j hj).1)
  have Ho := hide (own_mono (own_below o9 b10) B3.out.size)
  have Hb := hide (nxt (nxt B3.out b9) b10)
  clear o9 b9 b10 z10 e1_0 e1_1
  go_wp2
  refine bodyPost_ret (v := .tuple #[.agg #[.int .i64 N, .slice A9 XS.length c9], .bool B]) (by simp [results, Try.results33, go_sem, h90, h91]) rfl ?_
  exact ⟨_, rfl, own_setNe (own_setNe Ho.out (fun j hj => by have := Hfar.out j hj; omega) _ _) (fun j hj => by have := Hfar.out j hj; omega) _ _, below_store Hb.out Hle.out _ _⟩
end Go.Proofs.Ytmkacjpjcfffmab
