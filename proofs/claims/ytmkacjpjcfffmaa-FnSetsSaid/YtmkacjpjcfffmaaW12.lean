/- Walks: faces of a complex: facesIn, l3Has, HasFace, topSize, DimOf, IsPure. Printed by gen/w12.py. -/
import Derived.Test.YtmkacjpjcfffmaaW11
import Derived.Test.YtmkacjpjcfffmaaMathFace
namespace Go.Proofs.Ytmkacjpjcfffmaa
open Go.RowKit

theorem facesInI (n : Int) (v : Value) (xs : List Int) (w : World) (h : IntsAt w w.heap.size v xs) (hl : xs.length ≤ 1073741824) (hcx : isCx n xs = true) :
    Calls Try.prog 114 #[.agg #[.int .i64 n, v]] w fun e w' => e = .returned (.int .u64 (fam (faceP xs) : Int)) ∧ Below w.heap.size w w' := by
  obtain ⟨A, c, rfl⟩ := reads_shape h
  obtain ⟨w1, hW1, at1, b1, z1⟩ := boxC w (.int .i64 n) (.slice A xs.length c) 42
  have He := hide (cxElems (now_ h b1) hcx)
  obtain ⟨e1_0, e1_1⟩ := at1
  have B1 := hide b1
  clear h b1
  go_enter Try.func114, Try.ntmps114
  go_wp2_with fail
  clear hW1
  go_loop [3, 5, 9] (fun a _ i => ∃ k : Nat, k ≤ xs.length ∧ i = .int .i64 k ∧ a = .int .u64 (fam (faceP (xs.take k)) : Int)) (fun _ _ i => xs.length - (intOf i).toNat)
  case atStart => exact ⟨0, by omega, rfl, by rw [List.take_zero, faceP_nil, fam_zero]; rfl⟩
  case round =>
    obtain ⟨k, hk, rfl, rfl⟩ := hrel
    by_cases hlt : k < xs.length
    · obtain ⟨b, o, s, ⟨c', hv⟩, hx, hs, hcell⟩ := He.out k hlt
      cases hv
      have ho := or_fams (faceP (xs.take k)) (fun u => sub u s)
      have Ht : Hid (fam (faceP (xs.take (k + 1))) = fam (fun u => faceP (xs.take k) u || sub u s)) := by
        show _ = _
        rw [take_snoc _ _ _ hx]
        congr 1
        funext u
        rw [faceP_snoc]
        rfl
      clear hx
      go_wp2_with (go_at_call 151; refine (subsetFamilyI s hs _).mono ?_; rintro e wx ⟨rfl, rfl⟩)
      go_round
      case rel => exact ⟨k + 1, by omega, by go_num, by rw [Ht.out]⟩
      case measure => simp [intOf]; omega
    · have hk2 : xs.length ≤ k := by omega
      have Ht := hide (take_all xs k hk2)
      go_wp2
      go_ret
      exact ⟨ret_int (by rw [Ht.out]), B1.out⟩

theorem l3HasS (n : Int) (v : Value) (xs : List Int) (s : Nat) (w : World) (h : IntsAt w w.heap.size v xs) (hl : xs.length ≤ 1073741824) (hcx : isCx n xs = true) (hs : s < 64) :
    Calls Try.prog 122 #[.agg #[.int .i64 n, v], .int .i64 (s : Int)] w fun e w' => RetB w (faceP xs s) e w' := by
  obtain ⟨A, c, rfl⟩ := reads_shape h
  obtain ⟨w1, hW1, at1, b1, z1⟩ := boxC w (.int .i64 n) (.slice A xs.length c) 42
  have He := hide (cxElems (now_ h b1) hcx)
  obtain ⟨e1_0, e1_1⟩ := at1
  have B1 := hide b1
  clear h b1
  go_enter Try.func122, Try.ntmps122
  go_wp2_with fail
  clear hW1
  go_loop [5] (fun i => ∃ k : Nat, k ≤ xs.length ∧ i = .int .i64 k ∧ faceP (xs.take k) s = false) (fun i => xs.length - (intOf i).toNat)
  case atStart => exact ⟨0, by omega, rfl, rfl⟩
  case round =>
    obtain ⟨k, hk, rfl, hno⟩ := hrel
    by_cases hlt : k < xs.length
    · obtain ⟨b, o, x, ⟨c', hv⟩, hx, hx64, hcell⟩ := He.out k hlt
      cases hv
      have ho := and_bitY hs hx64
      have Hno := hide hno
      have Ht := hide (take_snoc _ _ _ hx)
      have Hin := hide (List.mem_of_getElem? hx)
      clear hx hno
      cases hsub : sub s x
      · have Hs2 := hide hsub
        rw [hsub] at ho
        clear hsub
        go_wp2
        go_round
        case rel => exact ⟨k + 1, by omega, by go_num, by rw [Ht.out, faceP_snoc, Hno.out, Int.toNat_natCast, Hs2.out]; rfl⟩
        case measure => simp [intOf]; omega
      · have Hs2 := hide hsub
        rw [hsub] at ho
        clear hsub
        go_wp2
        go_ret
        exact ⟨ret_bool (List.any_eq_true.2 ⟨_, Hin.out, by rw [Int.toNat_natCast]; exact Hs2.out⟩).symm, B1.out⟩
    · have hk2 : xs.length ≤ k := by omega
      have Ht := hide (take_all xs k hk2)
      have Hno := hide hno
      clear hno
      go_wp2
      go_ret
      exact ⟨ret_bool (by have := Hno.out; rw [Ht.out] at this; exact this.symm), B1.out⟩

theorem topSizeI (P : Nat → Bool) (w : World) : Calls Try.prog 118 #[.int .u64 (fam P : Int)] w fun e w' => e = .returned (.int .i64 (topOf P)) ∧ w = w' := by
  have hF := fam_lt P
  go_enter Try.func118, Try.ntmps118
  go_wp2
  go_loop [3, 4] (fun a i => ∃ k : Nat, k ≤ 64 ∧ i = .int .i64 k ∧ a = .int .i64 (topTo P k)) (fun _ i => 64 - (intOf i).toNat)
  case atStart => exact ⟨0, by omega, rfl, rfl⟩
  case round =>
    obtain ⟨k, hk, rfl, rfl⟩ := hrel
    by_cases hlt : k < 64
    · have hb := fam_bit P k
      rw [decide_eq_true hlt, Bool.true_and] at hb
      have hsz := sizeOf_yes hlt
      have Hb := hide hb
      have Hsz := hide hsz
      clear hb hsz
      have arm : True := trivial
      cases hp : P k
      · have Hno := hide (topTo_no (P := P) (k := k) (by rw [hp]; simp))
        have hb := Hb.out
        rw [hp] at hb
        clear hp
        go_wp2_with (go_at_call 130; refine (hasSetI _ k hF hlt _).mono ?_; rw [hb]; rintro e wx ⟨rfl, rfl⟩)
        go_round
        case rel => exact ⟨k + 1, by omega, by go_num, by rw [Hno.out]⟩
        case measure => simp [intOf]; omega
      · have hb := Hb.out
        rw [hp] at hb
        by_cases hgt : topTo P k < (pc k : Int)
        · have Hy := hide (topTo_yes hp hgt)
          have hd : decide ((pc k : Int) > topTo P k) = true := decide_eq_true hgt
          clear hp hgt
          go_wp2_with (first | (go_at_call 130; refine (hasSetI _ k hF hlt _).mono ?_; rw [hb]; rintro e wx ⟨rfl, rfl⟩) | (go_at_call 94; refine (sizeOfI _ _).mono ?_; rw [Hsz.out]; rintro e wx ⟨rfl, rfl⟩))
          go_round
          case rel => exact ⟨k + 1, by omega, by go_num, by rw [Hy.out]⟩
          case measure => simp [intOf]; omega
        · have Hno := hide (topTo_no (P := P) (k := k) (fun h => hgt h.2))
          have hd : decide ((pc k : Int) > topTo P k) = false := decide_eq_false hgt
          clear hp hgt
          go_wp2_with (first | (go_at_call 130; refine (hasSetI _ k hF hlt _).mono ?_; rw [hb]; rintro e wx ⟨rfl, rfl⟩) | (go_at_call 94; refine (sizeOfI _ _).mono ?_; rw [Hsz.out]; rintro e wx ⟨rfl, rfl⟩))
          go_round
          case rel => exact ⟨k + 1, by omega, by go_num, by rw [Hno.out]⟩
          case measure => simp [intOf]; omega
    · obtain rfl : k = 64 := by omega
      go_wp2
      go_ret
      exact ⟨rfl, rfl⟩
theorem topOf_bd (P : Nat → Bool) : -1 ≤ topOf P ∧ topOf P ≤ 6 := by
  rcases topTo_ge P 64 with h | h
  · exact h
  · omega

theorem dimOfI (n : Int) (v : Value) (xs : List Int) (w : World) (h : IntsAt w w.heap.size v xs) (hl : xs.length ≤ 1073741824) :
    Calls Try.prog 40 #[.agg #[.int .i64 n, v]] w fun e w' => RetN w (dimOf n xs) e w' := by
  obtain ⟨A, c, rfl⟩ := reads_shape h
  obtain ⟨w1, hW1, at1, b1, z1⟩ := boxC w (.int .i64 n) (.slice A xs.length c) 42
  have r1 := now_ h b1
  have At1 := hide at1
  obtain ⟨e1_0, e1_1⟩ := at1
  have B1 := hide b1
  have R1 := hide r1
  clear h b1 r1
  cases hcx : isCx n xs
  · have Hcx := hide hcx
    clear hcx
    go_enter Try.func40, Try.ntmps40
    go_wp2_with fail
    clear hW1
    refine (isComplexI n _ xs w1 R1.out hl).mono ?_
    rw [Hcx.out]
    rintro e w2 ⟨rfl, b2⟩
    have B2 := hide (nxt B1.out b2)
    obtain ⟨e2_0, e2_1⟩ := At1.out.to b2
    clear e1_0 e1_1
    go_wp2
    go_ret
    exact ⟨ret_int (dimOf_no Hcx.out).symm, B2.out⟩
  · have Hcx := hide hcx
    clear hcx
    go_enter Try.func40, Try.ntmps40
    go_wp2_with fail
    clear hW1
    refine (isComplexI n _ xs w1 R1.out hl).mono ?_
    rw [Hcx.out]
    rintro e w2 ⟨rfl, b2⟩
    have B2 := hide (nxt B1.out b2)
    obtain ⟨e2_0, e2_1⟩ := At1.out.to b2
    clear e1_0 e1_1
    have Hr2 := hide (now_ R1.out b2)
    clear b2
    have hbd := topOf_bd (faceP xs)
    go_wp2_with fail
    refine (facesInI n _ xs _ Hr2.out hl Hcx.out).mono ?_
    rintro e w3 ⟨rfl, b3⟩
    have B3 := hide (nxt B2.out b3)
    go_wp2_with (go_at_call 118; refine (topSizeI _ _).mono ?_; rintro e wx ⟨rfl, rfl⟩)
    go_ret
    exact ⟨ret_int (by unfold dimOf; rw [Hcx.out]; rfl), B3.out⟩

theorem dimOfS (n : Int) (v : Value) (xs : List Int) (w : World) (h : IntsAt w w.heap.size v xs) (hl : xs.length ≤ 1073741824) :
    Calls Try.prog 41 #[.agg #[.int .i64 n, v]] w fun e w' => RetN w (dimOf n xs) e w' := by
  obtain ⟨A, c, rfl⟩ := reads_shape h
  obtain ⟨w1, hW1, at1, b1, z1⟩ := boxC w (.int .i64 n) (.slice A xs.length c) 42
  have r1 := now_ h b1
  have At1 := hide at1
  obtain ⟨e1_0, e1_1⟩ := at1
  have B1 := hide b1
  have R1 := hide r1
  clear h b1 r1
  cases hcx : isCx n xs
  · have Hcx := hide hcx
    clear hcx
    go_enter Try.func41, Try.ntmps41
    go_wp2_with fail
    clear hW1
    refine (isComplexS n _ xs w1 R1.out hl).mono ?_
    rw [Hcx.out]
    rintro e w2 ⟨rfl, b2⟩
    have B2 := hide (nxt B1.out b2)
    obtain ⟨e2_0, e2_1⟩ := At1.out.to b2
    clear e1_0 e1_1
    go_wp2
    go_ret
    exact ⟨ret_int (dimOf_no Hcx.out).symm, B2.out⟩
  · have Hcx := hide hcx
    clear hcx
    by_cases h0 : 0 < xs.length
    · have hd : ((xs.length : Int) == 0) = false := by rw [beq_eq_false_iff_ne]; omega
      go_enter Try.func41, Try.ntmps41
      go_wp2_with fail
      clear hW1
      refine (isComplexS n _ xs w1 R1.out hl).mono ?_
      rw [Hcx.out]
      rintro e w2 ⟨rfl, b2⟩
      have B2 := hide (nxt B1.out b2)
      obtain ⟨e2_0, e2_1⟩ := At1.out.to b2
      clear e1_0 e1_1
      obtain ⟨b, o, s, ⟨c', hv⟩, hx, hs, hcell⟩ := cxElems (now_ R1.out b2) Hcx.out (xs.length - 1) (by omega)
      cases hv
      have Hx := hide hx
      have hsb : (s : Int) ≤ 9223372036854775807 := by omega
      have hpc := pc_le6 s hs
      clear hx b2
      go_wp2_with (go_at_call 117; refine (l2SizeS _ _ hsb).mono ?_; rw [Int.toNat_natCast]; rintro e wx ⟨rfl, rfl⟩)
      go_ret
      exact ⟨ret_int (by rw [dimOf_last Hcx.out Hx.out, Int.toNat_natCast]), B2.out⟩
    · have hge : xs.length ≤ 0 := by omega
      have hd : ((xs.length : Int) == 0) = true := by rw [beq_iff_eq]; omega
      have Hge := hide hge
      clear h0 hge
      go_enter Try.func41, Try.ntmps41
      go_wp2_with fail
      clear hW1
      refine (isComplexS n _ xs w1 R1.out hl).mono ?_
      rw [Hcx.out]
      rintro e w2 ⟨rfl, b2⟩
      have B2 := hide (nxt B1.out b2)
      obtain ⟨e2_0, e2_1⟩ := At1.out.to b2
      clear e1_0 e1_1
      go_wp2
      go_ret
      exact ⟨ret_int (dimOf_nil Hcx.out Hge.out).symm, B2.out⟩

end Go.Proofs.Ytmkacjpjcfffmaa
