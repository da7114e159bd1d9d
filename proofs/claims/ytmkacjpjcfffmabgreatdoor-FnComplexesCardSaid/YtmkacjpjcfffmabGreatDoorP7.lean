/- Texts of one kind, laid together (6 of them). -/
import Derived.StillTailTactics
import Derived.Test.YtmkacjpjcfffmabGreatDoorP1
import Derived.Test.YtmkacjpjcfffmabGreatDoorP2
import Derived.Test.YtmkacjpjcfffmabGreatDoorP3
import Derived.Test.YtmkacjpjcfffmabGreatDoorP4
import Derived.Test.YtmkacjpjcfffmabGreatDoorP5
import Derived.Test.YtmkacjpjcfffmabGreatDoorP6
namespace Go.Proofs.YtmkacjpjcfffmabGreatDoor
/- Walks: faces of a complex: facesIn, l3Has, HasFace, topSize, DimOf, IsPure. Printed by gen/w12.py. -/
section
open Go.RowKit

theorem facesInI (n : Int) (v : Value) (xs : List Int) (w : World) (h : IntsAt w w.heap.size v xs) (hl : xs.length ≤ 1073741824) (hcx : isCx n xs = true) :
    Calls Tryz.prog 56 #[.agg #[.int .i64 n, v]] w fun e w' => e = .returned (.int .u64 (fam (faceP xs) : Int)) ∧ Below w.heap.size w w' := by
  obtain ⟨A, c, rfl⟩ := reads_shape h
  obtain ⟨w1, hW1, at1, b1, z1⟩ := boxC w (.int .i64 n) (.slice A xs.length c) 26
  have He := hide (cxElems (now_ h b1) hcx)
  obtain ⟨e1_0, e1_1⟩ := at1
  have B1 := hide b1
  clear h b1
  go_enter Tryz.func56, Tryz.ntmps56
  go_wp2_with fail
  clear hW1
  go_loop [3, 5, 9] (fun a _ i => ∃ k : Nat, k ≤ xs.length ∧ i = .int .i64 k ∧ a = .int .u64 (fam (faceP (xs.take k)) : Int)) (fun _ _ i => xs.length - (intOf i).toNat)
  case atStart => exact ⟨0, by omega, rfl, by rw [List.take_zero, faceP_nil, fam_zero]; rfl⟩
  case round =>
    obtain ⟨k, hk, rfl, rfl⟩ := hrel
    by_cases hlt : k < xs.length
    · obtain ⟨b, o, s, ⟨c', hv⟩, hx, hs, hcell⟩ := He.out k hlt
      cases hv
      have ho := or_fams (faceP (xs.take k)) (fun u => sub u s)
      have Ht : Hid (fam (faceP (xs.take (k + 1))) = fam (fun u => faceP (xs.take k) u || sub u s)) := by
        show _ = _
        rw [take_snoc _ _ _ hx]
        congr 1
        funext u
        rw [faceP_snoc]
        rfl
      clear hx
      go_wp2_with (go_at_call 53; refine (subsetFamilyI s hs _).mono ?_; rintro e wx ⟨rfl, rfl⟩)
      go_round
      case rel => exact ⟨k + 1, by omega, by go_num, by rw [Ht.out]⟩
      case measure => simp [intOf]; omega
    · have hk2 : xs.length ≤ k := by omega
      have Ht := hide (take_all xs k hk2)
      go_wp2
      go_ret
      exact ⟨ret_int (by rw [Ht.out]), B1.out⟩

theorem l3HasS (n : Int) (v : Value) (xs : List Int) (s : Nat) (w : World) (h : IntsAt w w.heap.size v xs) (hl : xs.length ≤ 1073741824) (hcx : isCx n xs = true) (hs : s < 64) :
    Calls Tryz.prog 57 #[.agg #[.int .i64 n, v], .int .i64 (s : Int)] w fun e w' => RetB w (faceP xs s) e w' := by
  obtain ⟨A, c, rfl⟩ := reads_shape h
  obtain ⟨w1, hW1, at1, b1, z1⟩ := boxC w (.int .i64 n) (.slice A xs.length c) 26
  have He := hide (cxElems (now_ h b1) hcx)
  obtain ⟨e1_0, e1_1⟩ := at1
  have B1 := hide b1
  clear h b1
  go_enter Tryz.func57, Tryz.ntmps57
  go_wp2_with fail
  clear hW1
  go_loop [5] (fun i => ∃ k : Nat, k ≤ xs.length ∧ i = .int .i64 k ∧ faceP (xs.take k) s = false) (fun i => xs.length - (intOf i).toNat)
  case atStart => exact ⟨0, by omega, rfl, rfl⟩
  case round =>
    obtain ⟨k, hk, rfl, hno⟩ := hrel
    by_cases hlt : k < xs.length
    · obtain ⟨b, o, x, ⟨c', hv⟩, hx, hx64, hcell⟩ := He.out k hlt
      cases hv
      have ho := and_bitY hs hx64
      have Hno := hide hno
      have Ht := hide (take_snoc _ _ _ hx)
      have Hin := hide (List.mem_of_getElem? hx)
      clear hx hno
      cases hsub : sub s x
      · have Hs2 := hide hsub
        rw [hsub] at ho
        clear hsub
        go_wp2
        go_round
        case rel => exact ⟨k + 1, by omega, by go_num, by rw [Ht.out, faceP_snoc, Hno.out, Int.toNat_natCast, Hs2.out]; rfl⟩
        case measure => simp [intOf]; omega
      · have Hs2 := hide hsub
        rw [hsub] at ho
        clear hsub
        go_wp2
        go_ret
        exact ⟨ret_bool (List.any_eq_true.2 ⟨_, Hin.out, by rw [Int.toNat_natCast]; exact Hs2.out⟩).symm, B1.out⟩
    · have hk2 : xs.length ≤ k := by omega
      have Ht := hide (take_all xs k hk2)
      have Hno := hide hno
      clear hno
      go_wp2
      go_ret
      exact ⟨ret_bool (by have := Hno.out; rw [Ht.out] at this; exact this.symm), B1.out⟩

theorem hasFaceI (n : Int) (v : Value) (xs : List Int) (t : Int) (w : World) (h : IntsAt w w.heap.size v xs) (hl : xs.length ≤ 1073741824) :
    Calls Tryz.prog 20 #[.agg #[.int .i64 n, v], .int .i64 t] w fun e w' => RetB w (hasFaceOf n xs t) e w' := by
  obtain ⟨A, c, rfl⟩ := reads_shape h
  obtain ⟨w1, hW1, at1, b1, z1⟩ := boxC w (.int .i64 n) (.slice A xs.length c) 26
  have r1 := now_ h b1
  have At1 := hide at1
  obtain ⟨e1_0, e1_1⟩ := at1
  have B1 := hide b1
  have R1 := hide r1
  clear h b1 r1
  cases hcx : isCx n xs
  · have Hcx := hide hcx
    clear hcx
    go_enter Tryz.func20, Tryz.ntmps20
    go_wp2_with fail
    clear hW1
    refine (isComplexI n _ xs w1 R1.out hl).mono ?_
    rw [Hcx.out]
    rintro e w2 ⟨rfl, b2⟩
    have B2 := hide (nxt B1.out b2)
    obtain ⟨e2_0, e2_1⟩ := At1.out.to b2
    clear e1_0 e1_1
    go_wp2
    go_ret
    exact ⟨ret_bool (by simp [hasFaceOf, Hcx.out]), B2.out⟩
  · have Hcx := hide hcx
    clear hcx
    cases hset : isSetB n t
    · have Hset := hide hset
      clear hset
      go_enter Tryz.func20, Tryz.ntmps20
      go_wp2_with fail
      clear hW1
      refine (isComplexI n _ xs w1 R1.out hl).mono ?_
      rw [Hcx.out]
      rintro e w2 ⟨rfl, b2⟩
      have B2 := hide (nxt B1.out b2)
      obtain ⟨e2_0, e2_1⟩ := At1.out.to b2
      clear e1_0 e1_1
      go_wp2_with (go_at_call 54; refine (isSetI _ _ _).mono ?_; rw [Hset.out]; rintro e wx ⟨rfl, rfl⟩)
      go_ret
      refine ⟨ret_bool ?_, B2.out⟩
      unfold hasFaceOf
      rw [Hcx.out]
      by_cases ht : 0 ≤ t ∧ t < 64
      · obtain ⟨s, rfl⟩ := Int.eq_ofNat_of_zero_le ht.1
        cases hf : faceP xs s
        · rw [Int.toNat_natCast, hf]; simp
        · have := faceP_set Hcx.out hf
          rw [Hset.out] at this
          cases this
      · rw [decide_eq_false ht]; rfl
    · have Hset := hide hset
      have ht := isSetB_64 hset
      obtain ⟨s, rfl⟩ := Int.eq_ofNat_of_zero_le ht.1
      have hs : s < 64 := by omega
      have Ht := hide ht
      have hF := fam_lt (faceP xs)
      clear hset ht
      go_enter Tryz.func20, Tryz.ntmps20
      go_wp2_with fail
      clear hW1
      refine (isComplexI n _ xs w1 R1.out hl).mono ?_
      rw [Hcx.out]
      rintro e w2 ⟨rfl, b2⟩
      have B2 := hide (nxt B1.out b2)
      obtain ⟨e2_0, e2_1⟩ := At1.out.to b2
      clear e1_0 e1_1
      have Hr2 := hide (now_ R1.out b2)
      have Hb := hide (show (fam (faceP xs)).testBit s = hasFaceOf n xs (s : Int) by
        rw [fam_bit, decide_eq_true hs]
        unfold hasFaceOf
        rw [Hcx.out, decide_eq_true (show (0 : Int) ≤ (s : Int) ∧ (s : Int) < 64 by omega), Int.toNat_natCast]
        rfl)
      clear b2
      go_wp2_with (go_at_call 54; refine (isSetI _ _ _).mono ?_; rw [Hset.out]; rintro e wx ⟨rfl, rfl⟩)
      refine (facesInI n _ xs _ Hr2.out hl Hcx.out).mono ?_
      rintro e w3 ⟨rfl, b3⟩
      have B3 := hide (nxt B2.out b3)
      go_wp2_with (go_at_call 55; refine (hasSetI _ s hF hs _).mono ?_; rintro e wx ⟨rfl, rfl⟩)
      go_ret
      exact ⟨ret_bool Hb.out, B3.out⟩

theorem hasFaceS (n : Int) (v : Value) (xs : List Int) (t : Int) (w : World) (h : IntsAt w w.heap.size v xs) (hl : xs.length ≤ 1073741824) :
    Calls Tryz.prog 21 #[.agg #[.int .i64 n, v], .int .i64 t] w fun e w' => RetB w (hasFaceOf n xs t) e w' := by
  obtain ⟨A, c, rfl⟩ := reads_shape h
  obtain ⟨w1, hW1, at1, b1, z1⟩ := boxC w (.int .i64 n) (.slice A xs.length c) 26
  have r1 := now_ h b1
  have At1 := hide at1
  obtain ⟨e1_0, e1_1⟩ := at1
  have B1 := hide b1
  have R1 := hide r1
  clear h b1 r1
  cases hcx : isCx n xs
  · have Hcx := hide hcx
    clear hcx
    go_enter Tryz.func21, Tryz.ntmps21
    go_wp2_with fail
    clear hW1
    refine (isComplexS n _ xs w1 R1.out hl).mono ?_
    rw [Hcx.out]
    rintro e w2 ⟨rfl, b2⟩
    have B2 := hide (nxt B1.out b2)
    obtain ⟨e2_0, e2_1⟩ := At1.out.to b2
    clear e1_0 e1_1
    go_wp2
    go_ret
    exact ⟨ret_bool (by simp [hasFaceOf, Hcx.out]), B2.out⟩
  · have Hcx := hide hcx
    clear hcx
    by_cases ht : 0 ≤ t ∧ t < 64
    · have Hset : Hid (inB t 0 63 = true) := by show inB t 0 63 = true; exact inB_mk (by omega)
      obtain ⟨s, rfl⟩ := Int.eq_ofNat_of_zero_le ht.1
      have hs : s < 64 := by omega
      clear ht
      go_enter Tryz.func21, Tryz.ntmps21
      go_wp2_with fail
      clear hW1
      refine (isComplexS n _ xs w1 R1.out hl).mono ?_
      rw [Hcx.out]
      rintro e w2 ⟨rfl, b2⟩
      have B2 := hide (nxt B1.out b2)
      obtain ⟨e2_0, e2_1⟩ := At1.out.to b2
      clear e1_0 e1_1
      have Hr2 := hide (now_ R1.out b2)
      clear b2
      go_wp2_with (go_at_call 47; refine (l1InS _ _ _ _).mono ?_; rw [Hset.out]; rintro e wx ⟨rfl, rfl⟩)
      refine (l3HasS n _ xs s _ Hr2.out hl Hcx.out hs).mono ?_
      rintro e w3 ⟨rfl, b3⟩
      have B3 := hide (nxt B2.out b3)
      go_wp2
      go_ret
      exact ⟨ret_bool (by unfold hasFaceOf; rw [Hcx.out, decide_eq_true (show (0 : Int) ≤ (s : Int) ∧ (s : Int) < 64 by omega), Int.toNat_natCast]; rfl), B3.out⟩
    · have Hset : Hid (inB t 0 63 = false) := by show inB t 0 63 = false; exact inB_no (by omega)
      have Hs := hide ht
      clear ht
      go_enter Tryz.func21, Tryz.ntmps21
      go_wp2_with fail
      clear hW1
      refine (isComplexS n _ xs w1 R1.out hl).mono ?_
      rw [Hcx.out]
      rintro e w2 ⟨rfl, b2⟩
      have B2 := hide (nxt B1.out b2)
      obtain ⟨e2_0, e2_1⟩ := At1.out.to b2
      clear e1_0 e1_1
      go_wp2_with (go_at_call 47; refine (l1InS _ _ _ _).mono ?_; rw [Hset.out]; rintro e wx ⟨rfl, rfl⟩)
      go_ret
      exact ⟨ret_bool (by unfold hasFaceOf; rw [decide_eq_false Hs.out]; simp), B2.out⟩

theorem topOf_bd (P : Nat → Bool) : -1 ≤ topOf P ∧ topOf P ≤ 6 := by
  rcases topTo_ge P 64 with h | h
  · exact h
  · omega
end

/- Walks: FacesOf. -/
section
open Go.RowKit

def facesOf (n : Int) (xs : List Int) : List Nat := if isCx n xs then listOf (faceP xs) else []
theorem facesOf_yes {n : Int} {xs : List Int} (h : isCx n xs = true) : facesOf n xs = listOf (faceP xs) := by simp [facesOf, h]
theorem facesOf_no {n : Int} {xs : List Int} (h : isCx n xs = false) : facesOf n xs = [] := by simp [facesOf, h]
theorem facesOf_len (n : Int) (xs : List Int) : (facesOf n xs).length ≤ 448 := by
  unfold facesOf
  split
  · exact listOf_len _
  · simp
def facesTo (xs : List Int) (k : Nat) : List Nat := (List.range k).filter (faceP xs)
theorem facesTo_yes {xs : List Int} {k : Nat} (h : faceP xs k = true) : facesTo xs (k + 1) = facesTo xs k ++ [k] := by simp [facesTo, List.range_succ, h]
theorem facesTo_no {xs : List Int} {k : Nat} (h : faceP xs k = false) : facesTo xs (k + 1) = facesTo xs k := by simp [facesTo, List.range_succ, h]
theorem facesTo_len (xs : List Int) (k : Nat) : (facesTo xs k).length ≤ k := by
  have := List.length_filter_le (faceP xs) (List.range k)
  simpa [facesTo] using this
theorem in_zs (l : List Nat) (s : Nat) : inList (zs l) s = l.contains s := by
  unfold inList zs
  rw [Bool.eq_iff_iff, List.contains_iff_mem, List.contains_iff_mem, List.mem_map]
  constructor
  · rintro ⟨a, h, e⟩
    obtain rfl : a = s := Int.ofNat.inj e
    exact h
  · intro h
    exact ⟨s, h, rfl⟩
theorem facesTo_in (xs : List Int) {s : Nat} (hs : s < 64) : inList (zs (facesTo xs 64)) s = faceP xs s := by
  rw [in_zs, Bool.eq_iff_iff, List.contains_iff_mem]
  unfold facesTo
  rw [List.mem_filter, List.mem_range]
  exact ⟨fun h => h.2, fun h => ⟨hs, h⟩⟩
theorem zs_all {l : List Nat} (h : ∀ s ∈ l, s < 64) : allSets (zs l) = true := by
  refine List.all_eq_true.2 fun x hx => decide_eq_true ?_
  obtain ⟨m, hm, rfl⟩ := List.mem_map.1 hx
  have := h m hm
  constructor
  · show (0 : Int) ≤ (m : Int); omega
  · show (m : Int) < 64; omega
theorem facesTo_all (xs : List Int) : allSets (zs (facesTo xs 64)) = true := zs_all fun _ hs => List.mem_range.1 (List.mem_filter.1 hs).1
theorem zs_len20 (l : List Nat) : (zs l).length = l.length := List.length_map _
theorem listOf_none : listOf (inList []) = [] := by decide +kernel

theorem facesOfI (n : Int) (v : Value) (xs : List Int) (w : World) (h : IntsAt w w.heap.size v xs) (hl : xs.length ≤ 1073741824) :
    Calls Tryz.prog 26 #[.agg #[.int .i64 n, v]] w fun e w' => RetI 3 w (zs (facesOf n xs)) e w' := by
  obtain ⟨A, c, rfl⟩ := reads_shape h
  obtain ⟨w1, hW1, at1, b1, z1⟩ := boxC w (.int .i64 n) (.slice A xs.length c) 26
  have r1 := now_ h b1
  have At1 := hide at1
  obtain ⟨e1_0, e1_1⟩ := at1
  have B1 := hide b1
  have R1 := hide r1
  clear h b1 r1
  cases hcx : isCx n xs
  · have Hcx := hide hcx
    clear hcx
    go_enter Tryz.func26, Tryz.ntmps26
    go_wp2_with fail
    clear hW1
    refine (isComplexI n _ xs w1 R1.out hl).mono ?_
    rw [Hcx.out]
    rintro e w2 ⟨rfl, b2⟩
    have B2 := hide (nxt B1.out b2)
    go_wp2
    go_ret
    exact ⟨_, rfl, by rw [facesOf_no Hcx.out]; exact own_nil _ _, B2.out⟩
  · have Hcx := hide hcx
    clear hcx
    go_enter Tryz.func26, Tryz.ntmps26
    go_wp2_with fail
    clear hW1
    refine (isComplexI n _ xs w1 R1.out hl).mono ?_
    rw [Hcx.out]
    rintro e w2 ⟨rfl, b2⟩
    have B2 := hide (nxt B1.out b2)
    have R2 := hide (now_ R1.out b2)
    obtain ⟨e2_0, e2_1⟩ := At1.out.to b2
    clear e1_0 e1_1 b2
    go_wp2_with fail
    refine (facesInI n _ xs _ R2.out hl Hcx.out).mono ?_
    rintro e w3 ⟨rfl, b3⟩
    have B3 := hide (nxt B2.out b3)
    clear b3
    go_wp2_with fail
    refine (setsInI (faceP xs) w3).mono ?_
    rintro e w4 ⟨v4, rfl, o4, b4⟩
    have B4 := hide (nxt B3.out b4)
    have O4 := hide (own_mono o4 B3.out.size)
    clear b4 o4
    go_wp2
    go_ret
    exact ⟨_, rfl, by rw [facesOf_yes Hcx.out]; exact O4.out, B4.out⟩

theorem facesOfS (n : Int) (v : Value) (xs : List Int) (w : World) (h : IntsAt w w.heap.size v xs) (hl : xs.length ≤ 1073741824) :
    Calls Tryz.prog 30 #[.agg #[.int .i64 n, v]] w fun e w' => RetI 3 w (zs (facesOf n xs)) e w' := by
  obtain ⟨A, c, rfl⟩ := reads_shape h
  obtain ⟨w1, hW1, at1, b1, z1⟩ := boxC w (.int .i64 n) (.slice A xs.length c) 26
  have r1 := now_ h b1
  have At1 := hide at1
  have B1 := hide b1
  have R1 := hide r1
  obtain ⟨e1_0, e1_1⟩ := at1
  have Z1 := hide z1
  clear h b1 r1 z1
  cases hcx : isCx n xs
  · have Hcx := hide hcx
    clear hcx
    go_enter Tryz.func30, Tryz.ntmps30
    go_wp2_with fail
    clear hW1
    obtain ⟨ho, hbw⟩ : OwnV 3 (w1.alloc (.cells #[] 3)) w1.heap.size (.slice (some ⟨w1.heap.size, 0, none⟩) 0 0) (ints []) ∧ Below w1.heap.size w1 (w1.alloc (.cells #[] 3)) := ⟨own_empty _ _, below_alloc _ _⟩
    have Ho := hide ho
    have Hbw := hide hbw
    clear ho
    have R2 := hide (now_ R1.out hbw)
    obtain ⟨e2_0, e2_1⟩ := At1.out.to hbw
    clear e1_0 e1_1 hbw
    refine wp_loop_rounds 1 ?_
    rw [rounds_succ]
    go_wp2_with fail
    refine (isComplexS n _ xs _ R2.out hl).mono ?_
    rw [Hcx.out]
    rintro e w3 ⟨rfl, b3⟩
    have Ho3 := hide (own_below Ho.out b3)
    have Hb3 := hide (nxt Hbw.out b3)
    clear b3 e2_0 e2_1
    go_wp2_with fail
    refine (l2OrderS _ [] _ (own_reads Ho3.out) (by simp) rfl).mono ?_
    rintro e w4 ⟨v4, rfl, o4, b4⟩
    have B4 : Hid (Below w.heap.size w w4) := nxt (nxt B1.out Hb3.out) b4
    have O4 : Hid (OwnV 3 w4 w.heap.size v4 (ints (zs (listOf (inList []))))) := own_mono o4 (nxt B1.out Hb3.out).size
    clear b4 o4
    go_wp2
    go_ret
    exact ⟨_, rfl, by rw [facesOf_no Hcx.out]; have := O4.out; rw [listOf_none] at this; exact this, B4.out⟩
  · have Hcx := hide hcx
    clear hcx
    go_enter Tryz.func30, Tryz.ntmps30
    go_wp2_with fail
    clear hW1
    obtain ⟨ho, hbw⟩ : OwnV 3 (w1.alloc (.cells #[] 3)) w1.heap.size (.slice (some ⟨w1.heap.size, 0, none⟩) 0 0) (ints (zs (facesTo xs 0))) ∧ Below w1.heap.size w1 (w1.alloc (.cells #[] 3)) := ⟨own_empty _ _, below_alloc _ _⟩
    have Ho := hide ho
    have Hbw := hide hbw
    clear ho hbw e1_0 e1_1
    go_loopw [3, 4] (fun v i wr => ∃ k : Nat, k ≤ 64 ∧ i = .int .i64 k ∧ Hid (OwnV 3 wr w1.heap.size v (ints (zs (facesTo xs k)))) ∧ Hid (Below w1.heap.size w1 wr)) (fun _ i _ => 64 - (intOf i).toNat)
    case atStart => exact ⟨0, by omega, rfl, Ho, Hbw⟩
    case round =>
      obtain ⟨k, hk, rfl, hown, hb⟩ := hrel
      by_cases hlt : k < 64
      · obtain ⟨e2_0, e2_1⟩ := At1.out.to hb.out
        have hdk : decide ((k : Int) < 64) = true := by simp; omega
        go_wp2_with fail
        refine (isComplexS n _ xs wr (now_ R1.out hb.out) hl).mono ?_
        rw [Hcx.out]
        rintro e w3 ⟨rfl, b3⟩
        have hb3 := nxt hb.out b3
        have Hb3 := hide hb3
        have Ho3 := hide (own_below hown.out b3)
        obtain ⟨e3_0, e3_1⟩ := At1.out.to hb3
        clear e2_0 e2_1 hb3 b3 hb hown
        go_wp2_with fail
        refine (l3HasS n _ xs k w3 (now_ R1.out Hb3.out) hl Hcx.out hlt).mono ?_
        cases hf : faceP xs k
        · have Hn := hide (facesTo_no hf)
          clear hf
          rintro e w4 ⟨rfl, b4⟩
          have Hb4 := hide (nxt Hb3.out b4)
          have Ho4 := hide (own_below Ho3.out b4)
          clear e3_0 e3_1 b4
          go_wp2
          go_roundw
          case rel => exact ⟨k + 1, by omega, by go_num, by rw [Hn.out]; exact Ho4, Hb4⟩
          case measure => simp [intOf]; omega
        · have Hy := hide (facesTo_yes hf)
          clear hf
          rintro e w4 ⟨rfl, b4⟩
          have Hb4 := hide (nxt Hb3.out b4)
          have ho4 := own_below Ho3.out b4
          have hsz := Hb4.out.size
          have hlen : (zs (facesTo xs k)).length < 17179869184 := by have := facesTo_len xs k; rw [zs_len20]; omega
          clear e3_0 e3_1 b4
          go_wp2_with (at_builtin; refine wpList_appI ho4 (k : Int) Tryz.underlying24 infoI rfl _ _ rfl rfl rfl hlen hsz ?_; intro v' w5 hown5 hb5 hg5)
          have Hown5 : Hid (OwnV 3 w5 w1.heap.size v' (ints (zs (facesTo xs (k + 1))))) := by show OwnV _ _ _ _ _; rw [Hy.out, zs_snoc]; exact hown5
          have Hb5 : Hid (Below w1.heap.size w1 w5) := Hb4.out.trans hb5
          go_wp2
          go_roundw
          case rel => exact ⟨k + 1, by omega, by go_num, Hown5, Hb5⟩
          case measure => simp [intOf]; omega
      · obtain rfl : k = 64 := by omega
        go_wp2_with fail
        refine (l2OrderS _ (zs (facesTo xs 64)) wr (own_reads hown.out) (by have := facesTo_len xs 64; rw [zs_len20]; omega) (facesTo_all xs)).mono ?_
        rintro e w4 ⟨v4, rfl, o4, b4⟩
        have B4 : Hid (Below w.heap.size w w4) := nxt (nxt B1.out hb.out) b4
        have O4 : Hid (OwnV 3 w4 w.heap.size v4 (ints (zs (facesOf n xs)))) := by
          rw [facesOf_yes Hcx.out]
          have := own_mono o4 (nxt B1.out hb.out).size
          rwa [listOf_congr (fun s hs => facesTo_in xs hs)] at this
        clear b4 o4
        go_wp2
        go_ret
        exact ⟨_, rfl, O4.out, B4.out⟩
end

/- Plain laws: faces counted by size. No program is named here. -/
section
/-- The sets of k points in a list. -/
def sized (k : Int) (l : List Nat) : List Nat := l.filter (fun s => decide ((pc s : Int) = k))
theorem sized_yes {k : Int} {l : List Nat} {s : Nat} (h : (pc s : Int) = k) : sized k (l ++ [s]) = sized k l ++ [s] := by simp [sized, h]
theorem sized_no {k : Int} {l : List Nat} {s : Nat} (h : ¬ (pc s : Int) = k) : sized k (l ++ [s]) = sized k l := by simp [sized, h]
theorem sized_len (k : Int) (l : List Nat) : (sized k l).length ≤ l.length := List.length_filter_le _ _
theorem sized_neg {k : Int} (h : k < 0) (l : List Nat) : sized k l = [] := by
  unfold sized
  rw [List.filter_eq_nil_iff]
  intro s _
  simp
  omega
theorem layer_and (P : Nat → Bool) (k j : Nat) : layer (fun s => P s && decide ((pc s : Int) = (k : Int))) j = if j = k then layer P k else [] := by
  by_cases h : j = k
  · subst h
    rw [if_pos rfl]
    unfold layer
    apply List.filter_congr
    intro s _
    by_cases hp : pc s = j
    · simp [hp]
    · have : ¬ (pc s : Int) = (j : Int) := by omega
      simp [hp, this]
  · rw [if_neg h]
    unfold layer
    rw [List.filter_eq_nil_iff]
    intro s _
    by_cases hp : pc s = j
    · have : ¬ (pc s : Int) = (k : Int) := by omega
      simp [this]
    · simp [hp]
theorem flatMap_one {α : Type} (X : List α) (k : Nat) : ∀ n, (List.range n).flatMap (fun j => if j = k then X else []) = if k < n then X else []
  | 0 => by simp
  | n + 1 => by
    rw [List.range_succ, List.flatMap_append, flatMap_one X k n]
    rcases Nat.lt_trichotomy k n with h | h | h
    · rw [if_pos h, if_pos (by omega)]
      simp [show ¬ n = k by omega]
    · subst h
      simp
    · rw [if_neg (by omega), if_neg (by omega)]
      simp [show ¬ n = k by omega]
theorem layer_six (P : Nat → Bool) {k : Nat} (h : 6 < k) : layer P k = [] := by
  unfold layer
  rw [List.filter_eq_nil_iff]
  intro s hs
  have := pc_le6 s (List.mem_range.1 hs)
  simp
  intro _
  omega
theorem sized_listOf (P : Nat → Bool) (k : Nat) : sized (k : Int) (listOf P) = layer P k := by
  unfold sized
  rw [listOf_filter]
  unfold listOf
  rw [show (fun j => layer (fun s => P s && decide ((pc s : Int) = (k : Int))) j) = fun j => if j = k then layer P k else [] from funext fun j => layer_and P k j, flatMap_one]
  by_cases h : k < 7
  · rw [if_pos h]
  · rw [if_neg h, layer_six P (by omega)]
theorem layer_above {P : Nat → Bool} {k : Nat} (h : topOf P < (k : Int)) : layer P k = [] := by
  unfold layer
  rw [List.filter_eq_nil_iff]
  intro s hs hp
  rw [Bool.and_eq_true] at hp
  have h1 := (topTo_spec P 64).1 s (List.mem_range.1 hs) hp.1
  have h2 : pc s = k := by simpa using hp.2
  unfold topOf at h
  omega

/-! ### the counts -/
def cntM (l : List Nat) (m : Nat) : List Int := (List.range m).map fun (j : Nat) => ((sized (j : Int) l).length : Int)
theorem cntM_len (l : List Nat) (m : Nat) : (cntM l m).length = m := by simp [cntM]
theorem cntM_nil : cntM [] 0 = [] := rfl
theorem cntM_get (l : List Nat) {m j : Nat} (h : j < m) : (cntM l m)[j]? = some ((sized (j : Int) l).length : Int) := by simp [cntM, h]
/-- One more than the greatest size. -/
def mxL : List Nat → Nat := List.foldl (fun m s => max m (pc s + 1)) 0
theorem mxL_snoc (l : List Nat) (s : Nat) : mxL (l ++ [s]) = max (mxL l) (pc s + 1) := by simp [mxL, List.foldl_append]
theorem foldl_mx (l : List Nat) : ∀ m, m ≤ l.foldl (fun m s => max m (pc s + 1)) m ∧ (∀ s ∈ l, pc s < l.foldl (fun m s => max m (pc s + 1)) m) ∧ (l.foldl (fun m s => max m (pc s + 1)) m = m ∨ ∃ s ∈ l, l.foldl (fun m s => max m (pc s + 1)) m = pc s + 1) := by
  induction l with
  | nil => intro m; exact ⟨Nat.le_refl _, by simp, .inl rfl⟩
  | cons a l ih =>
    intro m
    obtain ⟨h1, h2, h3⟩ := ih (max m (pc a + 1))
    rw [List.foldl_cons]
    refine ⟨by omega, ?_, ?_⟩
    · intro s hs
      rcases List.mem_cons.1 hs with rfl | hs
      · omega
      · exact h2 s hs
    · rcases h3 with h3 | ⟨s, hs, h3⟩
      · rcases Nat.le_total (pc a + 1) m with h | h
        · left; omega
        · right; exact ⟨a, by simp, by omega⟩
      · right; exact ⟨s, by simp [hs], h3⟩
theorem mxL_lt (l : List Nat) : ∀ s ∈ l, pc s < mxL l := (foldl_mx l 0).2.1
theorem mxL_top (P : Nat → Bool) : (mxL (listOf P) : Int) = topOf P + 1 := by
  obtain ⟨_, h2, h3⟩ := foldl_mx (listOf P) 0
  obtain ⟨h4, h5⟩ := topTo_spec P 64
  have e : mxL (listOf P) = (listOf P).foldl (fun m s => max m (pc s + 1)) 0 := rfl
  rw [← e] at h2 h3
  unfold topOf
  rcases h5 with h5 | ⟨s, hs, hp, h5⟩
  · rcases h3 with h3 | ⟨t, ht, h3⟩
    · omega
    · obtain ⟨h6, h7⟩ := mem_listOf.1 ht
      have := h4 t h6 h7
      omega
  · have h8 := h2 s (mem_listOf.2 ⟨hs, hp⟩)
    rcases h3 with h3 | ⟨t, ht, h3⟩
    · omega
    · obtain ⟨h6, h7⟩ := mem_listOf.1 ht
      have := h4 t h6 h7
      omega
theorem mxL_le {l : List Nat} (h : ∀ s ∈ l, s < 64) : mxL l ≤ 7 := by
  rcases (foldl_mx l 0).2.2 with h3 | ⟨t, ht, h3⟩
  · have e : mxL l = l.foldl (fun m s => max m (pc s + 1)) 0 := rfl
    omega
  · have e : mxL l = l.foldl (fun m s => max m (pc s + 1)) 0 := rfl
    have := pc_le6 t (h t ht)
    omega
theorem sized_none {l : List Nat} {m : Nat} (h : ∀ s ∈ l, pc s < m) : sized (m : Int) l = [] := by
  unfold sized
  rw [List.filter_eq_nil_iff]
  intro s hs
  have := h s hs
  simp
  omega
theorem cntM_more {l : List Nat} {m : Nat} (h : ∀ s ∈ l, pc s < m) : cntM l (m + 1) = cntM l m ++ [0] := by
  unfold cntM
  rw [List.range_succ, List.map_append, List.map_singleton, sized_none h]
  rfl
theorem cntM_set {l : List Nat} {m s : Nat} (h : pc s < m) : (cntM l m).set (pc s) (((sized (pc s : Int) l).length : Int) + 1) = cntM (l ++ [s]) m := by
  apply List.ext_getElem?
  intro j
  by_cases hj : j < m
  · rw [cntM_get _ hj]
    by_cases e : j = pc s
    · subst e
      rw [List.getElem?_set_self (by rw [cntM_len]; exact h), sized_yes rfl]
      simp
    · rw [List.getElem?_set_ne (fun h => e h.symm), cntM_get _ hj, sized_no (by omega)]
  · rw [List.getElem?_eq_none (by rw [List.length_set, cntM_len]; omega), List.getElem?_eq_none (by rw [cntM_len]; omega)]
/-- The counts of a family. -/
def countsOf (P : Nat → Bool) : List Int := (List.range (topOf P + 1).toNat).map fun j => ((layer P j).length : Int)
theorem countsOf_eq (P : Nat → Bool) : cntM (listOf P) (mxL (listOf P)) = countsOf P := by
  have h := mxL_top P
  unfold cntM countsOf
  rw [show (topOf P + 1).toNat = mxL (listOf P) by omega]
  apply List.map_congr_left
  intro j _
  rw [sized_listOf]
theorem countsOf_len (P : Nat → Bool) : (countsOf P).length = (topOf P + 1).toNat := by simp [countsOf]
theorem countsOf_get (P : Nat → Bool) {j : Nat} (h : j < (topOf P + 1).toNat) : (countsOf P)[j]? = some ((layer P j).length : Int) := by simp [countsOf, h]
def cntTo (P : Nat → Bool) (k : Nat) : List Int := (List.range k).map fun j => ((layer P j).length : Int)
theorem cntTo_snoc (P : Nat → Bool) (k : Nat) : cntTo P (k + 1) = cntTo P k ++ [((layer P k).length : Int)] := by simp [cntTo, List.range_succ]
theorem cntTo_len (P : Nat → Bool) (k : Nat) : (cntTo P k).length = k := by simp [cntTo]

/-! ### the signed sum -/
def sgnP (s : Nat) : Int := 2 * ((pc s % 2 : Nat) : Int) - 1
def eulL (l : List Nat) : Int := (l.map sgnP).sum
theorem eulL_snoc (l : List Nat) (s : Nat) : eulL (l ++ [s]) = eulL l + sgnP s := by simp [eulL]
theorem sgnP_bd (s : Nat) : -1 ≤ sgnP s ∧ sgnP s ≤ 1 := by
  unfold sgnP
  omega
theorem eulL_bd (l : List Nat) : -(l.length : Int) ≤ eulL l ∧ eulL l ≤ (l.length : Int) := by
  induction l with
  | nil => simp [eulL]
  | cons a l ih =>
    have := sgnP_bd a
    simp only [eulL, List.map_cons, List.sum_cons, List.length_cons] at *
    omega
/-- The counts' signed sum, of the first k. -/
def eulTo (f : Nat → Int) : Nat → Int
  | 0 => 0
  | k + 1 => if k % 2 = 1 then eulTo f k + f k else eulTo f k - f k
theorem eulL_same {l : List Nat} {k : Nat} (h : ∀ s ∈ l, pc s = k) : eulL l = if k % 2 = 1 then (l.length : Int) else -(l.length : Int) := by
  induction l with
  | nil => simp [eulL]
  | cons a l ih =>
    have h1 := ih (fun s hs => h s (by simp [hs]))
    have h2 : sgnP a = 2 * ((k % 2 : Nat) : Int) - 1 := by unfold sgnP; rw [h a (by simp)]
    simp only [eulL, List.map_cons, List.sum_cons, List.length_cons] at *
    rw [h1, h2]
    split <;> omega
theorem eulL_append (l r : List Nat) : eulL (l ++ r) = eulL l + eulL r := by simp [eulL]
theorem eulL_lows (P : Nat → Bool) : ∀ k, eulL (lows P k) = eulTo (fun j => ((layer P j).length : Int)) k
  | 0 => rfl
  | k + 1 => by
    rw [lows_succ, eulL_append, eulL_lows P k, eulL_same (k := k) (fun s hs => (mem_layer.1 hs).2.2)]
    show _ = (if k % 2 = 1 then eulTo (fun j => ((layer P j).length : Int)) k + ((layer P k).length : Int) else eulTo (fun j => ((layer P j).length : Int)) k - ((layer P k).length : Int))
    by_cases h : k % 2 = 1
    · rw [if_pos h, if_pos h]
    · rw [if_neg h, if_neg h]
      omega
theorem eulTo_more {f : Nat → Int} {m : Nat} (h : ∀ j, m ≤ j → f j = 0) : ∀ d, eulTo f (m + d) = eulTo f m
  | 0 => rfl
  | d + 1 => by
    show (if (m + d) % 2 = 1 then eulTo f (m + d) + f (m + d) else eulTo f (m + d) - f (m + d)) = _
    rw [eulTo_more h d, h (m + d) (by omega)]
    split <;> omega
theorem eul_eq (P : Nat → Bool) (hb : -1 ≤ topOf P ∧ topOf P ≤ 6) : eulL (listOf P) = eulTo (fun j => ((layer P j).length : Int)) (topOf P + 1).toNat := by
  rw [← lows_all, eulL_lows]
  obtain ⟨d, hd⟩ : ∃ d, 7 = (topOf P + 1).toNat + d := ⟨7 - (topOf P + 1).toNat, by omega⟩
  rw [hd]
  apply eulTo_more
  intro j hj
  rw [layer_above (by omega)]
  rfl
theorem eulTo_bd (P : Nat → Bool) : ∀ k : Nat, -(64 * (k : Int)) ≤ eulTo (fun j => ((layer P j).length : Int)) k ∧ eulTo (fun j => ((layer P j).length : Int)) k ≤ 64 * (k : Int)
  | 0 => by simp [eulTo]
  | k + 1 => by
    have h1 := eulTo_bd P k
    have h2 := layer_len P k
    show _ ≤ (if k % 2 = 1 then eulTo (fun j => ((layer P j).length : Int)) k + ((layer P k).length : Int) else eulTo (fun j => ((layer P j).length : Int)) k - ((layer P k).length : Int)) ∧ (if k % 2 = 1 then eulTo (fun j => ((layer P j).length : Int)) k + ((layer P k).length : Int) else eulTo (fun j => ((layer P j).length : Int)) k - ((layer P k).length : Int)) ≤ _
    split <;> omega
def eulerOf (n : Int) (xs : List Int) : Int := if isCx n xs then eulTo (fun j => ((layer (faceP xs) j).length : Int)) (topOf (faceP xs) + 1).toNat else 0
def faceCounts (n : Int) (xs : List Int) : List Int := if isCx n xs then countsOf (faceP xs) else []
def facesOfSize (n : Int) (xs : List Int) (k : Int) : List Nat := if isCx n xs then (if 0 ≤ k then layer (faceP xs) k.toNat else []) else []
end

/- Walks: EulerOf, FacesOfSize, FaceCounts in the reference. -/
section
open Go.RowKit

theorem zsElems {w : World} {B : Nat} {v : Value} {fs : List Nat} (h : IntsAt w B v (zs fs)) : ∃ A c, v = .slice A fs.length c ∧ ∀ k, k < fs.length → ∃ b o x, A = some ⟨b, o, none⟩ ∧ fs[k]? = some x ∧ w.cell? ⟨b, o + k, none⟩ = some (.int .i64 ((x : Nat) : Int)) := by
  obtain ⟨A, c, hv, _, he⟩ := form_ h
  have hl : (zs fs).length = fs.length := List.length_map _
  rw [hl] at hv he
  refine ⟨A, c, hv, fun k hk => ?_⟩
  obtain ⟨b, o, x', hA, _, hx, hcell⟩ := he k hk
  obtain ⟨x, rfl, hx'⟩ : ∃ x : Nat, x' = (x : Int) ∧ fs[k]? = some x := by
    rw [show zs fs = fs.map Int.ofNat from rfl, List.getElem?_map] at hx
    cases hfk : fs[k]? with
    | none => rw [hfk] at hx; simp at hx
    | some y => rw [hfk] at hx; simp at hx; exact ⟨y, hx.symm, rfl⟩
  exact ⟨b, o, x, hA, hx', hcell⟩
theorem facesOf_lt (n : Int) (xs : List Int) : ∀ s ∈ facesOf n xs, s < 64 := by
  unfold facesOf
  split
  · exact fun s hs => (mem_listOf.1 hs).1
  · intro s hs; cases hs
theorem eulL_faces (n : Int) (xs : List Int) : eulL (facesOf n xs) = eulerOf n xs := by
  unfold facesOf eulerOf
  split
  · exact eul_eq _ (topOf_bd _)
  · rfl
theorem sized_faces (n : Int) (xs : List Int) (k : Int) : sized k (facesOf n xs) = facesOfSize n xs k := by
  unfold facesOf facesOfSize
  split
  · by_cases h : 0 ≤ k
    · rw [if_pos h]
      obtain ⟨m, rfl⟩ := Int.eq_ofNat_of_zero_le h
      exact sized_listOf _ m
    · rw [if_neg h, sized_neg (by omega)]
  · rfl
theorem cnt_faces (n : Int) (xs : List Int) : cntM (facesOf n xs) (mxL (facesOf n xs)) = faceCounts n xs := by
  unfold facesOf faceCounts
  split
  · exact countsOf_eq _
  · rfl
end

/- Walks: the draws of complexes: l3Pure. -/
section
open Go.RowKit

/-- The sets of one size below k. -/
def pureL (z k : Nat) : List Nat := (List.range k).filter fun s => pc s == z
theorem pureL_yes {z k : Nat} (h : pc k = z) : pureL z (k + 1) = pureL z k ++ [k] := by
  unfold pureL
  rw [List.range_succ, List.filter_append]
  simp [h]
theorem pureL_no {z k : Nat} (h : pc k ≠ z) : pureL z (k + 1) = pureL z k := by
  unfold pureL
  rw [List.range_succ, List.filter_append]
  simp [h]
theorem pureL_len (z k : Nat) : (pureL z k).length ≤ k := by
  have := List.length_filter_le (fun s => pc s == z) (List.range k)
  rw [List.length_range] at this
  exact this
theorem pureL_lt {z k s : Nat} (h : s ∈ pureL z k) : s < k := List.mem_range.1 (List.mem_filter.1 h).1
theorem pureL_some : ((List.range 7).all fun m => (List.range (m + 1)).all fun z => decide (0 < (pureL z (2 ^ m)).length)) = true := by decide +kernel
theorem pureL_pos {m z : Nat} (h : m ≤ 6) (hz : z ≤ m) : 0 < (pureL z (2 ^ m)).length := by
  have := List.all_eq_true.1 pureL_some m (List.mem_range.2 (by omega))
  have := List.all_eq_true.1 this z (List.mem_range.2 (by omega))
  exact of_decide_eq_true this

set_option maxHeartbeats 1600000 in
theorem l3PureS (p : Nat) (v : Value) (L : List UInt8) (m : Nat) (W : World) (hm1 : 1 ≤ m) (hm6 : m ≤ 6) (h : CurAt W p v L) (hL : L.length ≤ 1073741824) :
    Calls Tryz.prog 69 #[.pointer (some ⟨p, 0, none⟩), .int .i64 (m : Int)] W fun e W' => RetD 900 W p v L e W' := by
  obtain ⟨K, hK2, hK64, hKp, hw⟩ := pow6 hm1 hm6
  have HKp := hide hKp
  clear hKp
  have D0 := hide (Dr.start h 26)
  obtain ⟨w1, hW1⟩ : ∃ X, W.alloc (.cells #[.int .i64 0, .slice none 0 0] 26) = X := ⟨_, rfl⟩
  rw [hW1] at D0
  have Hz : Hid (w1.heap.size = W.heap.size + 1) := by show _ = _; rw [← hW1]; simp
  have hp := h.lt
  clear h
  go_enter Tryz.func69, Tryz.ntmps69
  go_wp2_with fail
  clear hW1
  refine (l1BelowS p v L _ w1 D0.out.cur hL (by omega)).mono ?_
  rintro e w2 ⟨r, hr, _, rfl, c2, g2⟩
  have hr6 := hr (by omega)
  have D2 := hide (D0.out.draw c2 g2)
  have hz2 : W.heap.size + 1 ≤ w2.heap.size := by have := Hz.out; have := g2.size; omega
  clear c2 g2 hr D0
  obtain ⟨w3, hW3, ho, hb⟩ : ∃ X, w2.alloc (.cells #[] 3) = X ∧ OwnV 3 X w2.heap.size (.slice (some ⟨w2.heap.size, 0, none⟩) 0 0) (ints (zs (pureL (r + 1) 0))) ∧ Below w2.heap.size w2 X := ⟨_, rfl, own_empty _ _, below_alloc _ _⟩
  have D3 := hide (D2.out.next hb)
  have O3 : Hid (OwnV 3 w3 (W.heap.size + 1) (.slice (some ⟨w2.heap.size, 0, none⟩) 0 0) (ints (zs (pureL (r + 1) 0)))) := own_mono ho hz2
  clear ho hb D2
  go_wp2_with fail
  clear hW3
  go_loopw [6, 7] (fun u i wr => ∃ k : Nat, k ≤ K ∧ i = .int .i64 k ∧ Hid (OwnV 3 wr (W.heap.size + 1) u (ints (zs (pureL (r + 1) k)))) ∧ Hid (Dr W W.heap.size p v L wr)) (fun _ i _ => K - (intOf i).toNat)
  case atStart => exact ⟨0, by omega, rfl, O3, D3⟩
  case round =>
    obtain ⟨k, hk, rfl, ho, hd⟩ := hrel
    have hlen : (zs (pureL (r + 1) k)).length < 17179869184 := by
      have := pureL_len (r + 1) k
      show (List.map _ _).length < _
      rw [List.length_map]
      omega
    by_cases hlt : k < K
    · have hsz : W.heap.size + 1 ≤ wr.heap.size := by have := hd.out.res.lt; omega
      have hc := l2SizeS (k : Int) wr (by omega)
      rw [Int.toNat_natCast] at hc
      have Hc := hide hc
      clear hc
      by_cases hs : pc k = r + 1
      · have hsb : ((pc k : Int) == 1 + (r : Int)) = true := by rw [hs]; simp; omega
        have Hs := hide hs
        clear hs
        go_wp2_with fail
        refine Calls.mono Hc.out ?_
        rintro e w4 ⟨rfl, rfl⟩
        have ho5 := ho.out
        go_wp2_with (at_builtin; refine wpList_appI ho5 (k : Int) Tryz.underlying24 infoI rfl _ _ rfl rfl rfl hlen hsz ?_; intro v' w6 hown6 hb6 hg6)
        have D6 := hide (hd.out.low hb6 (Nat.lt_succ_self _))
        have O6 : Hid (OwnV 3 w6 (W.heap.size + 1) v' (ints (zs (pureL (r + 1) (k + 1))))) := by
          rw [pureL_yes Hs.out, zs_snoc]
          exact hown6
        go_wp2
        go_roundw
        case rel => exact ⟨k + 1, by omega, by go_num, O6, D6⟩
        case measure => simp [intOf]; omega
      · have hsb : ((pc k : Int) == 1 + (r : Int)) = false := by rw [beq_eq_false_iff_ne]; omega
        have h6 := ho.out
        rw [← pureL_no hs] at h6
        have O6 := hide h6
        clear hs h6
        go_wp2_with fail
        refine Calls.mono Hc.out ?_
        rintro e w4 ⟨rfl, rfl⟩
        go_wp2
        go_roundw
        case rel => exact ⟨k + 1, by omega, by go_num, O6, hd⟩
        case measure => simp [intOf]; omega
    · obtain rfl : k = K := by omega
      obtain ⟨wq, hwq⟩ : ∃ X, X = wr := ⟨_, rfl⟩
      subst hwq
      have hpos : 0 < (pureL (r + 1) k).length := by rw [HKp.out]; exact pureL_pos hm6 (by omega)
      have Hmem : Hid (∀ s ∈ pureL (r + 1) k, s < 64) := fun s hs => by have := pureL_lt hs; omega
      generalize pureL (r + 1) k = ps at *
      have hzl : (zs ps).length = ps.length := List.length_map _
      rw [hzl] at hlen
      have Oa := hide ho.out
      obtain ⟨Aa, ca, rfl⟩ := own_shape ho.out
      clear ho HKp
      obtain ⟨w4, hW4, ho, hb⟩ : ∃ X, wq.alloc (.cells #[] 3) = X ∧ OwnV 3 X wq.heap.size (.slice (some ⟨wq.heap.size, 0, none⟩) 0 0) (ints []) ∧ Below wq.heap.size wq X := ⟨_, rfl, own_empty _ _, below_alloc _ _⟩
      have D4 := hide (hd.out.next hb)
      have Oa4 := hide (own_below Oa.out hb)
      have Lta : Hid (∀ j, Value.ownBlock (.slice Aa (zs ps).length ca) = some j → j < wq.heap.size) := fun j hj => (own_block Oa.out j hj).2
      have hz4 : W.heap.size + 1 ≤ wq.heap.size := by have := hd.out.res.lt; omega
      have Ho4 := hide ho
      have hzw : wq.heap.size ≤ w4.heap.size := hb.size
      clear hb hd Oa ho
      go_wp2_with fail
      clear hW4
      refine (l1BelowS p v L _ w4 D4.out.cur hL (by omega)).mono ?_
      rintro e w5 ⟨q, hq, _, rfl, c5, g5⟩
      have hq7 := hq (by omega)
      have D5 := hide (D4.out.draw c5 g5)
      have Oa5 := hide (own_grown Oa4.out g5 (fun j hj e => by
        have h1 := (own_block Oa4.out j hj).1
        have h2 := Option.some.inj e
        omega))
      have O5 : Hid (∃ xs, SetsK xs 0 ∧ OwnV 3 w5 wq.heap.size (.slice (some ⟨wq.heap.size, 0, none⟩) 0 0) (ints xs)) := ⟨[], ⟨rfl, rfl⟩, own_grown Ho4.out g5 (fun j hj e => by
        have h1 := (own_block Ho4.out j hj).1
        have h2 := Option.some.inj e
        omega)⟩
      have Hzw : Hid (wq.heap.size ≤ w5.heap.size) := Nat.le_trans hzw g5.size
      clear c5 g5 hq D4 Oa4 Ho4 hzw
      go_wp2_with fail
      go_loopw [8, 10] (fun u i wr => ∃ k2 : Nat, k2 ≤ q + 1 ∧ i = .int .i64 k2 ∧ Hid (∃ xs, SetsK xs k2 ∧ OwnV 3 wr wq.heap.size u (ints xs)) ∧ Hid (OwnV 3 wr (W.heap.size + 1) (.slice Aa (zs ps).length ca) (ints (zs ps))) ∧ Hid (Dr W W.heap.size p v L wr) ∧ Hid (wq.heap.size ≤ wr.heap.size)) (fun _ i _ => q + 1 - (intOf i).toNat)
      case atStart => exact ⟨0, by omega, rfl, O5, Oa5, D5, Hzw⟩
      case round =>
        obtain ⟨k2, hk2, rfl, hown, hoa, hd, hzx⟩ := hrel
        obtain ⟨xs, hsm, ho⟩ := hown.out
        have Hsm := hide hsm
        have Ho := hide ho
        clear hsm ho hown
        by_cases hlt2 : k2 < q + 1
        · go_wp2_with fail
          refine (l1BelowS p v L _ wr hd.out.cur hL (by omega)).mono ?_
          rintro e w6 ⟨j, hj, _, rfl, c6, g6⟩
          have hjl := hj (by omega)
          have D6 := hide (hd.out.draw c6 g6)
          have Oa6 := hide (own_grown hoa.out g6 (fun j hj e => by
            have h1 := (own_block hoa.out j hj).1
            have h2 := Option.some.inj e
            omega))
          have Ho6 := hide (own_grown Ho.out g6 (fun j hj e => by
            have h1 := (own_block Ho.out j hj).1
            have h2 := Option.some.inj e
            omega))
          obtain ⟨_, _, hva, hea⟩ := zsElems (own_reads Oa6.out)
          rw [hzl] at hva
          cases hva
          obtain ⟨b, o, s, hA, hs, hcell⟩ := hea j (by omega)
          have hs64 := Hmem.out s (List.mem_of_getElem? hs)
          cases hA
          have hlen : xs.length < 17179869184 := by have := Hsm.out.1; omega
          have hsz : wq.heap.size ≤ w6.heap.size := by exact Nat.le_trans hzx.out g6.size
          have ho6 := Ho6.out
          clear c6 g6 hj hea hs
          go_wp2_with (at_builtin; refine wpList_appI ho6 (s : Int) Tryz.underlying24 infoI rfl _ _ rfl rfl rfl hlen hsz ?_; intro v' w7 hown7 hb7 hg7)
          have D7 := hide (D6.out.low hb7 (by omega))
          have O7 : Hid (∃ ys, SetsK ys (k2 + 1) ∧ OwnV 3 w7 wq.heap.size v' (ints ys)) := ⟨_, Hsm.out.snoc (by omega) (by omega), hown7⟩
          have Oa7 := hide (own_grown Oa6.out hg7 (fun j hj e => by
            have h1 := Lta.out j hj
            have h2 := (own_block ho6 j e).1
            omega))
          have Hz7 : Hid (wq.heap.size ≤ w7.heap.size) := Nat.le_trans hsz hb7.size
          go_wp2
          go_roundw
          case rel => exact ⟨k2 + 1, by omega, by go_num, O7, Oa7, D7, Hz7⟩
          case measure => simp [intOf]; omega
        · have hxl : xs.length ≤ 1073741824 := by have := Hsm.out.1; omega
          go_wp2_with fail
          refine (l3MakeS _ _ xs wr (own_reads Ho.out) hxl Hsm.out.2).mono ?_
          rintro e w4 ⟨v', rfl, o4, b4⟩
          have D4 := hide (hd.out.next b4)
          have O4 : Hid (OwnV 3 w4 (W.heap.size + 1) v' (ints (zs (maxOf (inList xs))))) := own_mono o4 (by have := hd.out.res.lt; omega)
          obtain ⟨A', c', rfl⟩ := own_shape o4
          obtain ⟨⟨q0, q1, hq0, hq1⟩, f0, f1⟩ := D4.out.res
          have hr := D4.out.res.lt
          clear b4 o4
          go_wp2
          refine bodyPost_ret (v := .agg #[.int .i64 m, .slice A' (zs (maxOf (inList xs))).length c']) (by simp [results, Tryz.results69, go_sem, hq0, hq1]) rfl ?_
          exact D4.out.done O4.out (few_max hm6 _) _ _
end

/- Walks: parseHead in the program. -/
section
open Go.RowKit

def headRest (l : List UInt8) : List UInt8 := if headB l then l.drop 2 else []
def headNum (l : List UInt8) : Int := if headB l then headN l else 0
def PHead (w : World) (l : List UInt8) (e : Ending) (w' : World) : Prop := e = .returned (.tuple #[.int .i64 (headNum l), .string ⟨(headRest l).toArray⟩, .bool (headB l)]) ∧ Below w.heap.size w w'
theorem pHead_no {w w' : World} {l : List UInt8} (h : headB l = false) (hb : Below w.heap.size w w') : PHead w l (.returned (.tuple #[.int .i64 0, .string ⟨#[]⟩, .bool false])) w' := by
  unfold PHead headNum headRest
  rw [h]
  exact ⟨rfl, hb⟩
theorem headB_cons {c d : UInt8} {r : List UInt8} : headB (c :: d :: r) = decide (49 ≤ c.toNat ∧ c.toNat ≤ 54 ∧ d = 58) := rfl
theorem parseHeadI (l : List UInt8) (w : World) (hl : l.length ≤ 1073741824) :
    Calls Tryz.prog 35 #[.string ⟨l.toArray⟩] w fun e w' => PHead w l e w' := by
  by_cases hlen : 2 ≤ l.length
  · match l, hlen with
    | c :: d :: r, hlen =>
      have hll : (c :: d :: r : List UInt8).length = r.length + 2 := rfl
      obtain ⟨hk0, hg0⟩ := bget (c :: d :: r) 0 c rfl
      obtain ⟨hk1, hg1⟩ := bget (c :: d :: r) 1 d rfl
      by_cases h1 : 49 ≤ c.toNat
      · by_cases h2 : c.toNat ≤ 54
        · by_cases h3 : d = 58
          · subst h3
            have Hh : Hid (headB (c :: 58 :: r) = true) := by show _ = _; rw [headB_cons]; exact decide_eq_true ⟨h1, h2, rfl⟩
            have hx : (⟨(c :: 58 :: r).toArray⟩ : ByteArray).extract 2 (r.length + 2) = ⟨r.toArray⟩ := by
              rw [cut_eq33]
              simp
            have hsub : IntKind.u8.wrap ((c.toNat : Int) - 48) = (c.toNat : Int) - 48 := IntWalk.u8_in _ (by omega)
            go_enter Tryz.func35, Tryz.ntmps35
            go_wp2
            go_quiet (fail)
            go_wp2
            refine bodyPost_ret (v := .tuple #[.int .i64 ((c.toNat : Int) - 48), .string ⟨r.toArray⟩, .bool true]) (by simp [results, Tryz.results35, go_sem]) rfl ?_
            unfold PHead headNum headRest
            rw [Hh.out]
            exact ⟨rfl, below_drewN (Below.refl _ _) _⟩
          · have Hh : Hid (headB (c :: d :: r) = false) := by show _ = _; rw [headB_cons]; exact decide_eq_false (fun h => h3 h.2.2)
            have hd : ((d.toNat : Int) == 58) = false := by
              rw [beq_eq_false_iff_ne]
              intro e
              have h5 : d.toNat = 58 := by omega
              have h6 : UInt8.ofNat d.toNat = UInt8.ofNat 58 := by rw [h5]
              exact h3 (by simpa using h6)
            have hd2 : ((d.toNat : Int) != 58) = true := by rw [bne, hd]; rfl
            clear h3 hd
            go_enter Tryz.func35, Tryz.ntmps35
            go_wp2
            refine bodyPost_ret (v := .tuple #[.int .i64 0, .string ⟨#[]⟩, .bool false]) (by simp [results, Tryz.results35, go_sem]) rfl ?_
            exact pHead_no Hh.out (Below.refl _ _)
        · have Hh : Hid (headB (c :: d :: r) = false) := by show _ = _; rw [headB_cons]; exact decide_eq_false (fun h => h2 h.2.1)
          have h2' : 54 < c.toNat := by omega
          clear h2
          go_enter Tryz.func35, Tryz.ntmps35
          go_wp2
          refine bodyPost_ret (v := .tuple #[.int .i64 0, .string ⟨#[]⟩, .bool false]) (by simp [results, Tryz.results35, go_sem]) rfl ?_
          exact pHead_no Hh.out (Below.refl _ _)
      · have Hh : Hid (headB (c :: d :: r) = false) := by show _ = _; rw [headB_cons]; exact decide_eq_false (fun h => h1 h.1)
        have h1' : c.toNat < 49 := by omega
        clear h1
        go_enter Tryz.func35, Tryz.ntmps35
        go_wp2
        refine bodyPost_ret (v := .tuple #[.int .i64 0, .string ⟨#[]⟩, .bool false]) (by simp [results, Tryz.results35, go_sem]) rfl ?_
        exact pHead_no Hh.out (Below.refl _ _)
  · have Hh : Hid (headB l = false) := by
      show _ = _
      match l, hlen with
      | [], _ => rfl
      | [c], _ => rfl
      | c :: d :: r, hlen => exact absurd (by simp) hlen
    have h2 : l.length < 2 := by omega
    clear hlen
    go_enter Tryz.func35, Tryz.ntmps35
    go_wp2
    refine bodyPost_ret (v := .tuple #[.int .i64 0, .string ⟨#[]⟩, .bool false]) (by simp [results, Tryz.results35, go_sem]) rfl ?_
    exact pHead_no Hh.out (Below.refl _ _)
end
end Go.Proofs.YtmkacjpjcfffmabGreatDoor
