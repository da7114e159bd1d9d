/- Walks: StarOf in the program. -/
import Derived.Test.YtjbojjjajnoidacW17
import Derived.Test.YtjbojjjajnoidacW23
namespace Go.Proofs.Ytjbojjjajnoidac
open Go.RowKit

theorem boxI (w : World) (x : Value) (T : TypeId) : ∃ W, w.alloc (.cells #[x] T) = W ∧ W.cell? ⟨w.heap.size, 0, none⟩ = some x ∧ Below w.heap.size w W ∧ W.heap.size = w.heap.size + 1 :=
  ⟨_, rfl, World.cell?_alloc_at _ _ _ _ rfl, below_alloc _ _, by simp⟩
theorem cell_to {W W' : World} {b : Nat} {x : Value} (h : W.cell? ⟨b, 0, none⟩ = some x) (k : Below W.heap.size W W') : W'.cell? ⟨b, 0, none⟩ = some x := (k.cell (p := ⟨b, 0, none⟩) (World.block_lt_of_cell? _ _ h)).trans h
def starP (P : Nat → Bool) (s t : Nat) : Bool := P (t ||| s)
theorem or64b {t s : Nat} (ht : t < 64) (hs : s < 64) : t ||| s < 64 := Nat.or_lt_two_pow (n := 6) (by omega) (by omega)
theorem star1I (P : Nat → Bool) (s t : Nat) (hs : s < 64) (ht : t < 64) (b1 b2 : Nat) (w : World) (h1 : w.cell? ⟨b1, 0, none⟩ = some (.int .u64 (fam P : Int))) (h2 : w.cell? ⟨b2, 0, none⟩ = some (.int .i64 (s : Int))) :
    Calls Try.prog 73 #[.int .i64 (t : Int), .pointer (some ⟨b1, 0, none⟩), .pointer (some ⟨b2, 0, none⟩)] w fun e w' => e = .returned (.bool (starP P s t)) ∧ w = w' := by
  have ho := i64_or t s (by omega) (by omega)
  have hF := fam_lt P
  have hts := or64b ht hs
  have Hb : Hid ((fam P).testBit (t ||| s) = starP P s t) := by show _ = _; rw [fam_bit, decide_eq_true hts]; rfl
  go_enter Try.func73, Try.ntmps73
  go_wp2_with (go_at_call 74; refine (hasSetI _ _ hF hts _).mono ?_; rintro e wx ⟨rfl, rfl⟩)
  go_ret
  exact ⟨ret_bool Hb.out, rfl⟩
theorem enter_star1 (args : Array Value) (W : World) : (callFunc 73 args).run Try.prog W = .ok (.enter 73 args) W := call_enter Try.func73 (by kernel_rfl) rfl args W

theorem starOfI (n : Int) (v : Value) (xs : List Int) (t : Int) (w : World) (h : IntsAt w w.heap.size v xs) (hl : xs.length ≤ 1073741824) :
    Calls Try.prog 46 #[.agg #[.int .i64 n, v], .int .i64 t] w fun e w' => RetCB 3 w (cbN (setOk n xs t) n) (cbXs (setOk n xs t) (maxOf (pickTo (starP (faceP xs) t.toNat) (2 ^ n.toNat)))) (setOk n xs t) e w' := by
  obtain ⟨A, c, rfl⟩ := reads_shape h
  obtain ⟨w1, hW1, at1, b1, z1⟩ := boxC w (.int .i64 n) (.slice A xs.length c) 27
  obtain ⟨w1s, hW1s, ats, b1s, z1s⟩ := boxI w1 (.int .i64 t) 3
  obtain ⟨w2, hW2, at2, rs2, b2, z2⟩ := boxRes w1s 27
  have b02 := nxt (nxt b1 b1s) b2
  have R2 := hide (now_ h b02)
  have at1 := (at1.to b1s).to b2
  have At1 := hide at1
  have ats := cell_to ats b2
  have Ats := hide ats
  have Rs2 := hide rs2
  have B2 := hide b02
  have Hle : Hid (w.heap.size ≤ w1s.heap.size) := by show _ ≤ _; omega
  obtain ⟨e1_0, e1_1⟩ := at1
  obtain ⟨e2_0, e2_1⟩ := at2
  have At2 : Hid (AtC w2 w1s.heap.size (.int .i64 0) (.slice none 0 0)) := ⟨e2_0, e2_1⟩
  clear h b1 b1s b2 b02 z1 z1s z2 rs2
  cases hcx : isCx n xs
  · have Hcx := hide hcx
    clear hcx
    have Hok : Hid (setOk n xs t = false) := by show _ = _; unfold setOk; rw [Hcx.out]; rfl
    go_enter Try.func46, Try.ntmps46
    go_wp2_with fail
    clear hW1 hW1s hW2
    refine (isComplexI n _ xs w2 R2.out hl).mono ?_
    rw [Hcx.out]
    rintro e w3 ⟨rfl, b3⟩
    obtain ⟨e3_0, e3_1⟩ := At2.out.to b3
    obtain ⟨_, f0, f1⟩ := Rs2.out.to b3
    have hr : w1s.heap.size < w3.heap.size := (Rs2.out.to b3).lt
    have B3 := hide (nxt B2.out b3)
    clear b3 e1_0 e1_1 e2_0 e2_1 ats
    go_wp2
    refine bodyPost_ret (v := .tuple #[.agg #[.int .i64 0, .slice none 0 0], .bool false]) (by simp [results, Try.results46, go_sem, e3_0, e3_1]) rfl ?_
    exact retCB_no Hok.out (below_store B3.out Hle.out _ _)
  · have Hcx := hide hcx
    clear hcx
    cases hset : isSetB n t
    · have Hset := hide hset
      clear hset
      have Hok : Hid (setOk n xs t = false) := by show _ = _; unfold setOk; rw [Hcx.out, Hset.out]; rfl
      go_enter Try.func46, Try.ntmps46
      go_wp2_with fail
      clear hW1 hW1s hW2
      refine (isComplexI n _ xs w2 R2.out hl).mono ?_
      rw [Hcx.out]
      rintro e w3 ⟨rfl, b3⟩
      obtain ⟨e3_0, e3_1⟩ := At2.out.to b3
      obtain ⟨e13_0, e13_1⟩ := At1.out.to b3
      have es := cell_to Ats.out b3
      obtain ⟨_, f0, f1⟩ := Rs2.out.to b3
      have hr : w1s.heap.size < w3.heap.size := (Rs2.out.to b3).lt
      have B3 := hide (nxt B2.out b3)
      clear b3 e1_0 e1_1 e2_0 e2_1 ats
      go_wp2_with (go_at_call 64; refine (isSetI _ _ _).mono ?_; rw [Hset.out]; rintro e wx ⟨rfl, rfl⟩)
      refine bodyPost_ret (v := .tuple #[.agg #[.int .i64 0, .slice none 0 0], .bool false]) (by simp [results, Try.results46, go_sem, e3_0, e3_1]) rfl ?_
      exact retCB_no Hok.out (below_store B3.out Hle.out _ _)
    · have Hset := hide hset
      have ht := isSetB_64 hset
      obtain ⟨s, rfl⟩ := Int.eq_ofNat_of_zero_le ht.1
      have hs : s < 64 := by omega
      have hn6 := (isSetB_yes hset).2.1
      obtain ⟨m, rfl⟩ := Int.eq_ofNat_of_zero_le (isSetB_yes hset).1
      have hm6 : m ≤ 6 := by omega
      have Hok : Hid (setOk (m : Int) xs (s : Int) = true) := by show _ = _; unfold setOk; rw [Hcx.out, Hset.out]; rfl
      clear hset ht hn6
      go_enter Try.func46, Try.ntmps46
      go_wp2_with fail
      clear hW1 hW1s hW2
      refine (isComplexI m _ xs w2 R2.out hl).mono ?_
      rw [Hcx.out]
      rintro e w3 ⟨rfl, b3⟩
      obtain ⟨e3_0, e3_1⟩ := At1.out.to b3
      have es3 := cell_to Ats.out b3
      have At3 := hide (At1.out.to b3)
      have Es3 := hide es3
      have Rs3 := hide (Rs2.out.to b3)
      have B3 := hide (nxt B2.out b3)
      have R3 := hide (now_ R2.out b3)
      clear b3 e1_0 e1_1 e2_0 e2_1 ats
      go_wp2_with (go_at_call 64; refine (isSetI _ _ _).mono ?_; rw [Hset.out]; rintro e wx ⟨rfl, rfl⟩)
      refine (facesInI m _ xs _ R3.out hl Hcx.out).mono ?_
      rintro e w4 ⟨rfl, b4⟩
      obtain ⟨w5, hW5, ef5, b5, z5⟩ := boxI w4 (.int .u64 (fam (faceP xs) : Int)) 48
      have b35 := nxt b4 b5
      obtain ⟨e5_0, e5_1⟩ := At3.out.to b35
      have es5 := cell_to Es3.out b35
      have Rs5 := hide (Rs3.out.to b35)
      have B5 := hide (nxt B3.out b35)
      have Hp := hide (pickSetsI 73 #[.pointer (some ⟨w4.heap.size, 0, none⟩), .pointer (some ⟨w1.heap.size, 0, none⟩)] m hm6 (starP (faceP xs) s) w5 enter_star1 (fun t ht => star1I (faceP xs) s t hs ht _ _ w5 ef5 es5))
      clear b4 b5 b35 z5 e3_0 e3_1 es3
      go_wp2_with fail
      clear hW5
      refine (Hp.out).mono ?_
      rintro e w6 ⟨rfl, rfl⟩
      clear ef5 es5
      go_wp2_with fail
      refine (complexOfI m (pickTo (starP (faceP xs) s) (2 ^ m)) w5).mono ?_
      rintro e w7 ⟨v7, rfl, o7, b7⟩
      obtain ⟨A7, c7, rfl⟩ := own_shape o7
      obtain ⟨⟨q0, q1, h90, h91⟩, f90, f91⟩ := Rs5.out.to b7
      have h9r := (Rs5.out.to b7).lt
      have Hfar := hide (fun k hk => Nat.lt_of_lt_of_le Rs5.out.lt (own_block o7 k hk).1)
      have Ho := hide (own_mono o7 B5.out.size)
      have Hb := hide (nxt B5.out b7)
      clear o7 b7 e5_0 e5_1
      go_wp2
      refine bodyPost_ret (v := .tuple #[.agg #[.int .i64 m, .slice A7 (zs (maxOf (pickTo (starP (faceP xs) s) (2 ^ m)))).length c7], .bool true]) (by simp [results, Try.results46, go_sem, h90, h91]) rfl ?_
      rw [Int.toNat_natCast, Int.toNat_natCast]
      exact retCB_yes Hok.out (own_setNe (own_setNe Ho.out (fun k hk => by have := Hfar.out k hk; omega) _ _) (fun k hk => by have := Hfar.out k hk; omega) _ _) (below_store Hb.out Hle.out _ _)
end Go.Proofs.Ytjbojjjajnoidac
