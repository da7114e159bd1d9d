/- Walks: countBySize, FaceCounts, EulerOf in the program. -/
import Derived.Test.YtmkacjpjcfffmabW42
namespace Go.Proofs.Ytmkacjpjcfffmab
open Go.RowKit

theorem faceCounts_len (n : Int) (xs : List Int) : (faceCounts n xs).length ≤ 7 := by
  unfold faceCounts
  split
  · rw [countsOf_len]
    have := topOf_bd (faceP xs)
    omega
  · simp
theorem countBySizeI (P : Nat → Bool) (w : World) :
    Calls Try.prog 40 #[.int .u64 (fam P : Int)] w fun e w' => RetI 3 w (countsOf P) e w' := by
  obtain ⟨m, hm, hm7, hm2⟩ := topOf_nat P
  have Hm := hide hm
  have Hm2 := hide hm2
  clear hm hm2
  go_enter Try.func40, Try.ntmps40
  go_wp2_with fail
  refine (bySizeI P m Hm.out hm7 w).mono ?_
  rintro e w4 ⟨g, V, rfl, hV, b4⟩
  have HV := hide hV
  have Ho0 : Hid (OwnV 3 w4 w4.heap.size (.slice none 0 0) (ints (cntTo P 0))) := own_nil _ _
  have Hb0 : Hid (Below w4.heap.size w4 w4) := Below.refl _ _
  have B4 := hide b4
  clear hV b4
  go_wp2_with fail
  go_loopw [3, 5, 9] (fun v _ i wr => ∃ k : Nat, k ≤ m ∧ i = .int .i64 k ∧ Hid (OwnV 3 wr w4.heap.size v (ints (cntTo P k))) ∧ Hid (Below w4.heap.size w4 wr)) (fun _ _ i _ => m - (intOf i).toNat)
  case atStart => exact ⟨0, by omega, rfl, Ho0, Hb0⟩
  case round =>
    obtain ⟨k, hk, rfl, hown, hb⟩ := hrel
    by_cases hlt : k < m
    · have hV2 := HV.out.below hb.out
      obtain ⟨hcell, _⟩ := hV2.cell hlt
      obtain ⟨A5, c5, hv5⟩ := own_shape (hV2.row k hlt)
      have hl5 : (zs (layer P k)).length = (layer P k).length := List.length_map _
      rw [hv5, hl5] at hcell
      have Hs := hide (cntTo_snoc P k)
      have ho := hown.out
      have hsz := hb.out.size
      have hlen : (cntTo P k).length < 17179869184 := by rw [cntTo_len]; omega
      clear hV2 hv5 hl5
      go_wp2_with (at_builtin; refine wpList_appI ho ((layer P k).length : Int) Try.underlying22 infoI rfl _ _ rfl rfl rfl hlen hsz ?_; intro v' w5 hown5 hb5 hg5)
      have Hown5 : Hid (OwnV 3 w5 w4.heap.size v' (ints (cntTo P (k + 1)))) := by show OwnV _ _ _ _ _; rw [Hs.out]; exact hown5
      have Hb5 : Hid (Below w4.heap.size w4 w5) := hb.out.trans hb5
      go_wp2
      go_roundw
      case rel => exact ⟨k + 1, by omega, by go_num, Hown5, Hb5⟩
      case measure => simp [intOf]; omega
    · obtain rfl : k = m := by omega
      have ho := hown.out
      have e : cntTo P k = countsOf P := by unfold cntTo countsOf; rw [← Hm2.out]
      rw [e] at ho
      have Ho := hide ho
      have HB : Hid (Below w.heap.size w wr) := nxt B4.out hb.out
      clear ho hown e
      go_wp2
      go_ret
      exact ⟨_, rfl, own_mono Ho.out B4.out.size, HB.out⟩

theorem faceCountsI (n : Int) (v : Value) (xs : List Int) (w : World) (h : IntsAt w w.heap.size v xs) (hl : xs.length ≤ 1073741824) :
    Calls Try.prog 23 #[.agg #[.int .i64 n, v]] w fun e w' => RetI 3 w (faceCounts n xs) e w' := by
  obtain ⟨A, c, rfl⟩ := reads_shape h
  obtain ⟨w1, hW1, at1, b1, z1⟩ := boxC w (.int .i64 n) (.slice A xs.length c) 27
  have r1 := now_ h b1
  have At1 := hide at1
  obtain ⟨e1_0, e1_1⟩ := at1
  have B1 := hide b1
  have R1 := hide r1
  clear h b1 r1 z1
  cases hcx : isCx n xs
  · have Hfin : Hid (faceCounts n xs = []) := by show _ = _; unfold faceCounts; rw [hcx]; rfl
    have Hcx := hide hcx
    clear hcx
    go_enter Try.func23, Try.ntmps23
    go_wp2_with fail
    clear hW1
    refine (isComplexI n _ xs w1 R1.out hl).mono ?_
    rw [Hcx.out]
    rintro e w2 ⟨rfl, b2⟩
    have B2 := hide (nxt B1.out b2)
    go_wp2
    go_ret
    exact ⟨_, rfl, by rw [Hfin.out]; exact own_nil _ _, B2.out⟩
  · have Hcx := hide hcx
    have Hfin : Hid (faceCounts n xs = countsOf (faceP xs)) := by show _ = _; unfold faceCounts; rw [hcx]; rfl
    clear hcx
    go_enter Try.func23, Try.ntmps23
    go_wp2_with fail
    clear hW1
    refine (isComplexI n _ xs w1 R1.out hl).mono ?_
    rw [Hcx.out]
    rintro e w2 ⟨rfl, b2⟩
    have B2 := hide (nxt B1.out b2)
    have R2 := hide (now_ R1.out b2)
    obtain ⟨e2_0, e2_1⟩ := At1.out.to b2
    clear e1_0 e1_1 b2
    go_wp2_with fail
    refine (facesInI n _ xs _ R2.out hl Hcx.out).mono ?_
    rintro e w3 ⟨rfl, b3⟩
    have B3 := hide (nxt B2.out b3)
    clear b3
    go_wp2_with fail
    refine (countBySizeI (faceP xs) w3).mono ?_
    rintro e w4 ⟨v4, rfl, o4, b4⟩
    have B4 := hide (nxt B3.out b4)
    have O4 := hide (own_mono o4 B3.out.size)
    clear b4 o4
    go_wp2
    go_ret
    exact ⟨_, rfl, by rw [Hfin.out]; exact O4.out, B4.out⟩

theorem eulerOfI (n : Int) (v : Value) (xs : List Int) (w : World) (h : IntsAt w w.heap.size v xs) (hl : xs.length ≤ 1073741824) :
    Calls Try.prog 14 #[.agg #[.int .i64 n, v]] w fun e w' => RetN w (eulerOf n xs) e w' := by
  obtain ⟨A, c, rfl⟩ := reads_shape h
  obtain ⟨w1, hW1, at1, b1, z1⟩ := boxC w (.int .i64 n) (.slice A xs.length c) 27
  have r1 := now_ h b1
  have At1 := hide at1
  obtain ⟨e1_0, e1_1⟩ := at1
  have B1 := hide b1
  have R1 := hide r1
  clear h b1 r1 z1
  cases hcx : isCx n xs
  · have Hfin : Hid (eulerOf n xs = 0) := by show _ = _; unfold eulerOf; rw [hcx]; rfl
    have Hcx := hide hcx
    clear hcx
    go_enter Try.func14, Try.ntmps14
    go_wp2_with fail
    clear hW1
    refine (isComplexI n _ xs w1 R1.out hl).mono ?_
    rw [Hcx.out]
    rintro e w2 ⟨rfl, b2⟩
    have B2 := hide (nxt B1.out b2)
    go_wp2
    go_ret
    exact ⟨ret_int Hfin.out.symm, B2.out⟩
  · have Hcx := hide hcx
    obtain ⟨m, hm, hm7, hm2⟩ := topOf_nat (faceP xs)
    have Hfin : Hid (eulerOf n xs = eulTo (fun j => ((layer (faceP xs) j).length : Int)) m) := by show _ = _; unfold eulerOf; rw [hcx, if_pos rfl, ← hm2]
    have Hm2 := hide hm2
    clear hcx hm hm2
    go_enter Try.func14, Try.ntmps14
    go_wp2_with fail
    clear hW1
    refine (isComplexI n _ xs w1 R1.out hl).mono ?_
    rw [Hcx.out]
    rintro e w2 ⟨rfl, b2⟩
    have B2 := hide (nxt B1.out b2)
    have R2 := hide (now_ R1.out b2)
    obtain ⟨e2_0, e2_1⟩ := At1.out.to b2
    clear e1_0 e1_1 b2
    go_wp2_with fail
    refine (facesInI n _ xs _ R2.out hl Hcx.out).mono ?_
    rintro e w3 ⟨rfl, b3⟩
    have B3 := hide (nxt B2.out b3)
    clear b3
    go_wp2_with fail
    refine (countBySizeI (faceP xs) w3).mono ?_
    rintro e w4 ⟨v4, rfl, o4, b4⟩
    have B4 := hide (nxt B3.out b4)
    obtain ⟨A4, c4, hv4, _, he⟩ := form_ (own_reads o4)
    rw [countsOf_len, ← Hm2.out] at hv4 he
    subst hv4
    have He := hide he
    clear b4 o4 he e2_0 e2_1
    go_wp2_with fail
    go_loop [3, 4, 5, 13] (fun a _ _ i => ∃ k : Nat, k ≤ m ∧ i = .int .i64 k ∧ a = .int .i64 (eulTo (fun j => ((layer (faceP xs) j).length : Int)) k)) (fun _ _ _ i => m - (intOf i).toNat)
    case atStart => exact ⟨0, by omega, rfl, rfl⟩
    case round =>
      obtain ⟨k, hk, rfl, rfl⟩ := hrel
      by_cases hlt : k < m
      · obtain ⟨b, o, x, rfl, _, hx, hcell⟩ := He.out k hlt
        rw [countsOf_get _ (by rw [← Hm2.out]; exact hlt)] at hx
        cases hx
        have hbd := eulTo_bd (faceP xs) k
        have hbl := layer_len (faceP xs) k
        by_cases hodd : k % 2 = 1
        · have Hs : Hid (eulTo (fun j => ((layer (faceP xs) j).length : Int)) (k + 1) = eulTo (fun j => ((layer (faceP xs) j).length : Int)) k + ((layer (faceP xs) k).length : Int)) := by
            show (if k % 2 = 1 then _ else _) = _
            rw [if_pos hodd]
          have hq : ((k : Int) % 2 == 1) = true := by rw [beq_iff_eq]; omega
          clear hodd
          go_wp2
          go_round
          case rel => exact ⟨k + 1, by omega, by go_num, by rw [Hs.out]⟩
          case measure => simp [intOf]; omega
        · have Hs : Hid (eulTo (fun j => ((layer (faceP xs) j).length : Int)) (k + 1) = eulTo (fun j => ((layer (faceP xs) j).length : Int)) k - ((layer (faceP xs) k).length : Int)) := by
            show (if k % 2 = 1 then _ else _) = _
            rw [if_neg hodd]
          have hq : ((k : Int) % 2 == 1) = false := by rw [beq_eq_false_iff_ne]; omega
          clear hodd
          go_wp2
          go_round
          case rel => exact ⟨k + 1, by omega, by go_num, by rw [Hs.out]⟩
          case measure => simp [intOf]; omega
      · obtain rfl : k = m := by omega
        go_wp2
        go_ret
        exact ⟨ret_int Hfin.out.symm, B4.out⟩
end Go.Proofs.Ytmkacjpjcfffmab
