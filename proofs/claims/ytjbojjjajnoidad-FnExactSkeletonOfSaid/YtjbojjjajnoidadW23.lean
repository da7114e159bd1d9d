/- Walks: the reference's InducedOf; both makings are one. Printed by gen/w23.py. -/
import Derived.Test.YtjbojjjajnoidadW22
import Derived.Test.YtjbojjjajnoidadW20
namespace Go.Proofs.Ytjbojjjajnoidad
open Go.RowKit

theorem sub_and {t a b : Nat} (h : sub t a = true) (k : sub t b = true) : sub t (a &&& b) = true := by
  rw [sub_iff] at *
  rw [← Nat.and_assoc, h, k]
theorem sub_and_left (a b : Nat) : sub (a &&& b) a = true := by
  rw [sub_iff, Nat.and_comm a b, Nat.and_assoc, Nat.and_self]
theorem sub_and_right (a b : Nat) : sub (a &&& b) b = true := by
  rw [sub_iff, Nat.and_assoc, Nat.and_self]
theorem mem_zs {l : List Nat} {s : Nat} : inList (zs l) s = true ↔ s ∈ l := by rw [in_zs, List.contains_iff_mem]
theorem induced_max {xs : List Int} {s : Nat} (_hx : ∀ x ∈ xs, 0 ≤ x ∧ x < 64) (hs : s < 64) : maxOf (inList (zs (insides s xs))) = maxOf (fun u => faceP xs u && sub u s) := by
  apply maxOf_under
  intro t _
  constructor
  · rintro ⟨u, hu, hin, htu⟩
    obtain ⟨x, hxm, rfl⟩ := List.mem_map.1 (mem_zs.1 hin)
    refine ⟨_, hu, ?_, htu⟩
    show (faceP xs (x.toNat &&& s) && sub (x.toNat &&& s) s) = true
    rw [sub_and_right, Bool.and_true]
    exact List.any_eq_true.2 ⟨x, hxm, sub_and_left _ _⟩
  · rintro ⟨u, hu, hin, htu⟩
    rw [Bool.and_eq_true] at hin
    obtain ⟨x, hxm, hux⟩ := List.any_eq_true.1 hin.1
    refine ⟨x.toNat &&& s, ?_, mem_zs.2 (List.mem_map.2 ⟨x, hxm, rfl⟩), sub_and (sub_trans2 htu hux) (sub_trans2 htu hin.2)⟩
    have h : x.toNat &&& s ≤ s := Nat.and_le_right
    omega

theorem inducedOfS (n : Int) (v : Value) (xs : List Int) (t : Int) (w : World) (h : IntsAt w w.heap.size v xs) (hl : xs.length ≤ 1048576) :
    Calls Try.prog 52 #[.agg #[.int .i64 n, v], .int .i64 t] w fun e w' => RetCB 3 w (cbN (setOk n xs t) n) (cbXs (setOk n xs t) (maxOf (fun u => faceP xs u && sub u t.toNat))) (setOk n xs t) e w' := by
  obtain ⟨A, c, rfl⟩ := reads_shape h
  obtain ⟨w1, hW1, at1, b1, z1⟩ := boxC w (.int .i64 n) (.slice A xs.length c) 26
  obtain ⟨w2, hW2, at2, rs2, b2, z2⟩ := boxRes w1 26
  have b02 := nxt b1 b2
  have R2 := hide (now_ h b02)
  have at1 := at1.to b2
  have At1 := hide at1
  have Rs2 := hide rs2
  have B2 := hide b02
  have Hle : Hid (w.heap.size ≤ w1.heap.size) := by show _ ≤ _; omega
  obtain ⟨e1_0, e1_1⟩ := at1
  obtain ⟨e2_0, e2_1⟩ := at2
  have At2 : Hid (AtC w2 w1.heap.size (.int .i64 0) (.slice none 0 0)) := ⟨e2_0, e2_1⟩
  clear h b1 b2 b02 z1 z2 rs2
  cases hok : setOk n xs t
  · have Hok := hide hok
    clear hok
    go_enter Try.func52, Try.ntmps52
    go_wp2_with fail
    clear hW1 hW2
    refine (l5SetS n _ xs t w2 R2.out (by omega)).mono ?_
    rw [Hok.out]
    rintro e w3 ⟨rfl, b3⟩
    obtain ⟨e3_0, e3_1⟩ := At2.out.to b3
    obtain ⟨_, f0, f1⟩ := Rs2.out.to b3
    have hr : w1.heap.size < w3.heap.size := (Rs2.out.to b3).lt
    have B3 := hide (nxt B2.out b3)
    clear b3 e1_0 e1_1 e2_0 e2_1
    go_wp2
    refine bodyPost_ret (v := .tuple #[.agg #[.int .i64 0, .slice none 0 0], .bool false]) (by simp [results, Try.results52, go_sem, e3_0, e3_1]) rfl ?_
    exact retCB_no rfl (below_store B3.out Hle.out _ _)
  · have Hok := hide hok
    have hcx : isCx n xs = true := by unfold setOk at hok; rw [Bool.and_eq_true] at hok; exact hok.1
    have hset : isSetB n t = true := by unfold setOk at hok; rw [Bool.and_eq_true] at hok; exact hok.2
    have ht := isSetB_64 hset
    obtain ⟨s, rfl⟩ := Int.eq_ofNat_of_zero_le ht.1
    have hs : s < 64 := by omega
    have Hcx := hide hcx
    have Hmx := hide (induced_max (isCx_sets hcx) hs)
    clear hok hcx hset ht
    go_enter Try.func52, Try.ntmps52
    go_wp2_with fail
    clear hW1 hW2
    refine (l5SetS n _ xs _ w2 R2.out (by omega)).mono ?_
    rw [Hok.out]
    rintro e w3 ⟨rfl, b3⟩
    have R3 := hide (now_ R2.out b3)
    obtain ⟨e3_0, e3_1⟩ := At1.out.to b3
    have Rs3 := hide (Rs2.out.to b3)
    have B3 := hide (nxt B2.out b3)
    clear b3 e1_0 e1_1 e2_0 e2_1
    go_wp2_with fail
    refine (l5InsideS n _ xs s w3 R3.out hl Hcx.out hs).mono ?_
    rw [Hmx.out]
    rintro e w4 ⟨v4, rfl, o4, b4⟩
    obtain ⟨A4, c4, rfl⟩ := own_shape o4
    obtain ⟨⟨q0, q1, h90, h91⟩, f90, f91⟩ := Rs3.out.to b4
    have h9r := (Rs3.out.to b4).lt
    have Hfar := hide (fun k hk => Nat.lt_of_lt_of_le Rs3.out.lt (own_block o4 k hk).1)
    have Ho4 := hide (own_mono o4 B3.out.size)
    have Hb4 := hide (nxt B3.out b4)
    clear o4 b4 e3_0 e3_1
    go_wp2
    rw [Int.toNat_natCast]
    refine bodyPost_ret (v := .tuple #[.agg #[.int .i64 n, .slice A4 (zs (maxOf (fun u => faceP xs u && sub u s))).length c4], .bool true]) (by simp [results, Try.results52, go_sem, h90, h91]) rfl ?_
    exact retCB_yes rfl (own_setNe (own_setNe Ho4.out (fun k hk => by have := Hfar.out k hk; omega) _ _) (fun k hk => by have := Hfar.out k hk; omega) _ _) (below_store Hb4.out Hle.out _ _)

end Go.Proofs.Ytjbojjjajnoidad
