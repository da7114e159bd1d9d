/- Walks: StarOf in the reference; both makings are one. -/
import Derived.Test.YtjbojjjajnoidacW26
namespace Go.Proofs.Ytjbojjjajnoidac
open Go.RowKit

def stars (s : Nat) (xs : List Int) : List Nat := (xs.filter (fun x => sub s x.toNat)).map Int.toNat
theorem stars_len (s : Nat) (xs : List Int) : (stars s xs).length ≤ xs.length := by unfold stars; rw [List.length_map]; exact List.length_filter_le _ _
theorem stars_yes {s x : Nat} {xs : List Int} (h : sub s x = true) : stars s (xs ++ [(x : Int)]) = stars s xs ++ [x] := by simp [stars, List.filter_append, h]
theorem stars_no {s x : Nat} {xs : List Int} (h : sub s x = false) : stars s (xs ++ [(x : Int)]) = stars s xs := by simp [stars, List.filter_append, h]
theorem stars_all {xs : List Int} {s : Nat} (h : ∀ x ∈ xs, 0 ≤ x ∧ x < 64) : allSets (zs (stars s xs)) = true := by
  refine zs_all fun m hm => ?_
  obtain ⟨x, hx, rfl⟩ := List.mem_map.1 hm
  have := h x (List.mem_filter.1 hx).1
  omega
theorem or_sub {s x : Nat} (h : sub s x = true) : x ||| s = x := by
  rw [sub_iff] at h
  apply Nat.eq_of_testBit_eq
  intro i
  rw [Nat.testBit_or]
  have := congrArg (fun z => z.testBit i) h
  simp only [Nat.testBit_and] at this
  cases hx : x.testBit i
  · rw [hx] at this
    cases hs : s.testBit i
    · rfl
    · rw [hs] at this; cases this
  · rfl
theorem sub_or_l (a b : Nat) : sub a (a ||| b) = true := by
  rw [sub_iff]
  apply Nat.eq_of_testBit_eq
  intro i
  rw [Nat.testBit_and, Nat.testBit_or]
  cases a.testBit i <;> simp
theorem sub_or_r (a b : Nat) : sub b (a ||| b) = true := by rw [Nat.or_comm]; exact sub_or_l b a
theorem star_max {n : Nat} {xs : List Int} {s : Nat} (hcx : isCx (n : Int) xs = true) : maxOf (inList (zs (stars s xs))) = maxOf (pickTo (starP (faceP xs) s) (2 ^ n)) := by
  apply maxOf_under
  intro t _
  constructor
  · rintro ⟨u, hu, hin, htu⟩
    obtain ⟨x, hxm, rfl⟩ := List.mem_map.1 (mem_zs.1 hin)
    obtain ⟨hxm, hsx⟩ := List.mem_filter.1 hxm
    have hfit := isSetB_yes (isCx_fit hcx x hxm)
    refine ⟨_, hu, ?_, htu⟩
    unfold pickTo starP
    have hlt : x.toNat < 2 ^ n := by
      have h := hfit.2.2.2
      rw [Int.toNat_natCast] at h
      have h0 := hfit.2.2.1
      have : ((2 : Int) ^ n) = ((2 ^ n : Nat) : Int) := by simp
      omega
    rw [decide_eq_true hlt, or_sub hsx]
    exact List.any_eq_true.2 ⟨x, hxm, sub_self _⟩
  · rintro ⟨u, hu, hin, htu⟩
    unfold pickTo starP at hin
    rw [Bool.and_eq_true] at hin
    obtain ⟨x, hxm, hux⟩ := List.any_eq_true.1 hin.2
    have hx64 := isCx_sets hcx x hxm
    exact ⟨x.toNat, by omega, mem_zs.2 (List.mem_map.2 ⟨x, List.mem_filter.2 ⟨hxm, sub_trans2 (sub_or_r u s) hux⟩, rfl⟩), sub_trans2 htu (sub_trans2 (sub_or_l u s) hux)⟩

theorem starOfS (n : Int) (v : Value) (xs : List Int) (t : Int) (w : World) (h : IntsAt w w.heap.size v xs) (hl : xs.length ≤ 1048576) :
    Calls Try.prog 45 #[.agg #[.int .i64 n, v], .int .i64 t] w fun e w' => RetCB 3 w (cbN (setOk n xs t) n) (cbXs (setOk n xs t) (maxOf (pickTo (starP (faceP xs) t.toNat) (2 ^ n.toNat)))) (setOk n xs t) e w' := by
  obtain ⟨A, c, rfl⟩ := reads_shape h
  obtain ⟨w1, hW1, at1, b1, z1⟩ := boxC w (.int .i64 n) (.slice A xs.length c) 27
  obtain ⟨w2, hW2, at2, rs2, b2, z2⟩ := boxRes w1 27
  have b02 := nxt b1 b2
  have R2 := hide (now_ h b02)
  have at1 := at1.to b2
  have At1 := hide at1
  have Rs2 := hide rs2
  have B2 := hide b02
  have Hle : Hid (w.heap.size ≤ w1.heap.size) := by show _ ≤ _; omega
  obtain ⟨e1_0, e1_1⟩ := at1
  obtain ⟨e2_0, e2_1⟩ := at2
  have At2 : Hid (AtC w2 w1.heap.size (.int .i64 0) (.slice none 0 0)) := ⟨e2_0, e2_1⟩
  clear h b1 b2 b02 z1 z2 rs2
  cases hok : setOk n xs t
  · have Hok := hide hok
    clear hok
    go_enter Try.func45, Try.ntmps45
    go_wp2_with fail
    clear hW1 hW2
    refine (l5SetS n _ xs t w2 R2.out (by omega)).mono ?_
    rw [Hok.out]
    rintro e w3 ⟨rfl, b3⟩
    obtain ⟨e3_0, e3_1⟩ := At2.out.to b3
    obtain ⟨_, f0, f1⟩ := Rs2.out.to b3
    have hr : w1.heap.size < w3.heap.size := (Rs2.out.to b3).lt
    have B3 := hide (nxt B2.out b3)
    clear b3 e1_0 e1_1 e2_0 e2_1
    go_wp2
    refine bodyPost_ret (v := .tuple #[.agg #[.int .i64 0, .slice none 0 0], .bool false]) (by simp [results, Try.results45, go_sem, e3_0, e3_1]) rfl ?_
    exact retCB_no rfl (below_store B3.out Hle.out _ _)
  · have Hok := hide hok
    have hcx : isCx n xs = true := by unfold setOk at hok; rw [Bool.and_eq_true] at hok; exact hok.1
    have hset : isSetB n t = true := by unfold setOk at hok; rw [Bool.and_eq_true] at hok; exact hok.2
    have ht := isSetB_64 hset
    obtain ⟨s, rfl⟩ := Int.eq_ofNat_of_zero_le ht.1
    have hs : s < 64 := by omega
    obtain ⟨m, rfl⟩ := Int.eq_ofNat_of_zero_le (isSetB_yes hset).1
    have Hcx := hide hcx
    have Hmx := hide (star_max (s := s) hcx)
    clear hok hcx hset ht
    go_enter Try.func45, Try.ntmps45
    go_wp2_with fail
    clear hW1 hW2
    refine (l5SetS m _ xs _ w2 R2.out (by omega)).mono ?_
    rw [Hok.out]
    rintro e w3 ⟨rfl, b3⟩
    have He := hide (cxElems (now_ R2.out b3) Hcx.out)
    have At3 := hide (At1.out.to b3)
    have Rs3 := hide (Rs2.out.to b3)
    have B3 := hide (nxt B2.out b3)
    clear b3 e1_0 e1_1 e2_0 e2_1
    obtain ⟨w4, hW4, ho, hbw⟩ : ∃ W, w3.alloc (.cells #[] 3) = W ∧ OwnV 3 W w3.heap.size (.slice (some ⟨w3.heap.size, 0, none⟩) 0 0) (ints (zs (stars s (xs.take 0)))) ∧ Below w3.heap.size w3 W := ⟨_, rfl, own_empty _ _, below_alloc _ _⟩
    have Ho := hide ho
    have Hbw := hide hbw
    clear ho hbw
    go_wp2_with fail
    clear hW4
    go_loopw [6, 7] (fun v i wr => ∃ k : Nat, k ≤ xs.length ∧ i = .int .i64 k ∧ Hid (OwnV 3 wr w3.heap.size v (ints (zs (stars s (xs.take k))))) ∧ Hid (Below w3.heap.size w3 wr)) (fun _ i _ => xs.length - (intOf i).toNat)
    case atStart => exact ⟨0, by omega, rfl, Ho, Hbw⟩
    case round =>
      obtain ⟨k, hk, rfl, hown, hb⟩ := hrel
      obtain ⟨e1, e2⟩ := At3.out.to hb.out
      by_cases hlt : k < xs.length
      · obtain ⟨b, o, x, ⟨c', hv⟩, hx, hx64, hcell0⟩ := He.out k hlt
        cases hv
        have hcell := (hb.out.cell (World.block_lt_of_cell? _ _ hcell0)).trans hcell0
        have Ht := hide (take_snoc _ _ _ hx)
        have hlen : (zs (stars s (xs.take k))).length < 17179869184 := by
          have h1 := stars_len s (xs.take k)
          have h2 := List.length_take_le k xs
          rw [List.length_map]; omega
        have hsz := hb.out.size
        have ho := hown.out
        have hq := and_bitY hs hx64
        clear hx hcell0
        cases hsub : sub s x
        · have Hn := hide (stars_no (xs := xs.take k) hsub)
          rw [hsub] at hq
          clear hsub
          go_wp2
          go_roundw
          case rel => exact ⟨k + 1, by omega, by go_num, by rw [Ht.out, Hn.out]; exact hown, hb⟩
          case measure => simp [intOf]; omega
        · have Hy := hide (stars_yes (xs := xs.take k) hsub)
          rw [hsub] at hq
          clear hsub
          go_wp2_with (at_builtin; refine wpList_appI ho (x : Int) Try.underlying22 infoI rfl _ _ rfl rfl rfl hlen hsz ?_; intro v' w5 hown5 hb5 hg5)
          have Hown5 : Hid (OwnV 3 w5 w3.heap.size v' (ints (zs (stars s (xs.take (k + 1)))))) := by show OwnV _ _ _ _ _; rw [Ht.out, Hy.out, zs_snoc]; exact hown5
          have Hb5 : Hid (Below w3.heap.size w3 w5) := hb.out.trans hb5
          go_wp2
          go_roundw
          case rel => exact ⟨k + 1, by omega, by go_num, Hown5, Hb5⟩
          case measure => simp [intOf]; omega
      · have hk2 : xs.length ≤ k := by omega
        have Ht := hide (take_all xs k hk2)
        have hlen : (zs (stars s xs)).length ≤ 1073741824 := by
          have h1 := stars_len s xs
          rw [List.length_map]; omega
        have hown2 := hown.out
        rw [Ht.out] at hown2
        have Hown := hide hown2
        have Hall := hide (stars_all (s := s) (isCx_sets Hcx.out))
        clear hown hown2
        go_wp2_with fail
        refine (l3MakeS m _ (zs (stars s xs)) wr (own_reads Hown.out) hlen Hall.out).mono ?_
        rw [Hmx.out]
        rintro e w6 ⟨v6, rfl, o6, b6⟩
        obtain ⟨A6, c6, rfl⟩ := own_shape o6
        obtain ⟨⟨q0, q1, h90, h91⟩, f90, f91⟩ := (Rs3.out.to hb.out).to b6
        have h9r := ((Rs3.out.to hb.out).to b6).lt
        have Hfar := hide (fun k hk => Nat.lt_of_lt_of_le (Rs3.out.to hb.out).lt (own_block o6 k hk).1)
        have Ho6 := hide (own_mono o6 (nxt B3.out hb.out).size)
        have Hb6 := hide (nxt (nxt B3.out hb.out) b6)
        clear o6 b6
        go_wp2
        rw [Int.toNat_natCast, Int.toNat_natCast]
        refine bodyPost_ret (v := .tuple #[.agg #[.int .i64 m, .slice A6 (zs (maxOf (pickTo (starP (faceP xs) s) (2 ^ m)))).length c6], .bool true]) (by simp [results, Try.results45, go_sem, h90, h91]) rfl ?_
        exact retCB_yes rfl (own_setNe (own_setNe Ho6.out (fun k hk => by have := Hfar.out k hk; omega) _ _) (fun k hk => by have := Hfar.out k hk; omega) _ _) (below_store Hb6.out Hle.out _ _)
end Go.Proofs.Ytjbojjjajnoidac
