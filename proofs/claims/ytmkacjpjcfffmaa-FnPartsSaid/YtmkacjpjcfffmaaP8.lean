/- Texts of one kind, laid together (4 of them). -/
import Derived.Test.YtmkacjpjcfffmaaP6
import Derived.Test.YtmkacjpjcfffmaaP7
namespace Go.Proofs.Ytmkacjpjcfffmaa
/- Walks: what is read off the facets of a complex, more: IsSimplex, ConePoints, DegreeOf, IsPure. Printed by gen/w11.py. -/
section
open Go.RowKit

theorem isSimplexI (n : Int) (v : Value) (xs : List Int) (w : World) (h : IntsAt w w.heap.size v xs) (hl : xs.length ≤ 1073741824) :
    Calls Try.prog 50 #[.agg #[.int .i64 n, v]] w fun e w' => RetB w (isCx n xs && (xs.length == 1)) e w' := by
  obtain ⟨A, c, rfl⟩ := reads_shape h
  obtain ⟨w1, hW1, at1, b1, z1⟩ := boxC w (.int .i64 n) (.slice A xs.length c) 42
  have r1 := now_ h b1
  have At1 := hide at1
  obtain ⟨e1_0, e1_1⟩ := at1
  have B1 := hide b1
  have R1 := hide r1
  clear h b1 r1
  cases hcx : isCx n xs
  · have Hcx := hide hcx
    clear hcx
    go_enter Try.func50, Try.ntmps50
    go_wp2_with fail
    clear hW1
    refine (isComplexI n _ xs w1 R1.out hl).mono ?_
    rw [Hcx.out]
    rintro e w2 ⟨rfl, b2⟩
    have B2 := hide (nxt B1.out b2)
    obtain ⟨e2_0, e2_1⟩ := At1.out.to b2
    clear e1_0 e1_1
    go_wp2
    go_ret
    exact ⟨rfl, B2.out⟩
  · have Hcx := hide hcx
    clear hcx
    by_cases h1 : xs.length = 1
    · have H1 := hide h1
      have hd : ((xs.length : Int) == 1) = true := by simp; omega
      clear h1
      go_enter Try.func50, Try.ntmps50
      go_wp2_with fail
      clear hW1
      refine (isComplexI n _ xs w1 R1.out hl).mono ?_
      rw [Hcx.out]
      rintro e w2 ⟨rfl, b2⟩
      have B2 := hide (nxt B1.out b2)
      obtain ⟨e2_0, e2_1⟩ := At1.out.to b2
      clear e1_0 e1_1
      go_wp2
      go_ret
      have h1 := H1.out
      exact ⟨ret_bool (by simp [h1]), B2.out⟩
    · have H1 := hide h1
      have hd : ((xs.length : Int) == 1) = false := by simp; omega
      clear h1
      go_enter Try.func50, Try.ntmps50
      go_wp2_with fail
      clear hW1
      refine (isComplexI n _ xs w1 R1.out hl).mono ?_
      rw [Hcx.out]
      rintro e w2 ⟨rfl, b2⟩
      have B2 := hide (nxt B1.out b2)
      obtain ⟨e2_0, e2_1⟩ := At1.out.to b2
      clear e1_0 e1_1
      go_wp2
      go_ret
      have h1 := H1.out
      exact ⟨ret_bool (by simp [h1]), B2.out⟩
theorem isSimplexS (n : Int) (v : Value) (xs : List Int) (w : World) (h : IntsAt w w.heap.size v xs) (hl : xs.length ≤ 1073741824) :
    Calls Try.prog 51 #[.agg #[.int .i64 n, v]] w fun e w' => RetB w (isCx n xs && (xs.length == 1)) e w' := by
  obtain ⟨A, c, rfl⟩ := reads_shape h
  obtain ⟨w1, hW1, at1, b1, z1⟩ := boxC w (.int .i64 n) (.slice A xs.length c) 42
  have r1 := now_ h b1
  have At1 := hide at1
  obtain ⟨e1_0, e1_1⟩ := at1
  have B1 := hide b1
  have R1 := hide r1
  clear h b1 r1
  cases hcx : isCx n xs
  · have Hcx := hide hcx
    clear hcx
    go_enter Try.func51, Try.ntmps51
    go_wp2_with fail
    clear hW1
    refine (isComplexS n _ xs w1 R1.out hl).mono ?_
    rw [Hcx.out]
    rintro e w2 ⟨rfl, b2⟩
    have B2 := hide (nxt B1.out b2)
    obtain ⟨e2_0, e2_1⟩ := At1.out.to b2
    clear e1_0 e1_1
    go_wp2
    go_ret
    exact ⟨rfl, B2.out⟩
  · have Hcx := hide hcx
    clear hcx
    by_cases h1 : xs.length = 1
    · have H1 := hide h1
      have hd : ((xs.length : Int) == 1) = true := by simp; omega
      clear h1
      go_enter Try.func51, Try.ntmps51
      go_wp2_with fail
      clear hW1
      refine (isComplexS n _ xs w1 R1.out hl).mono ?_
      rw [Hcx.out]
      rintro e w2 ⟨rfl, b2⟩
      have B2 := hide (nxt B1.out b2)
      obtain ⟨e2_0, e2_1⟩ := At1.out.to b2
      clear e1_0 e1_1
      go_wp2
      go_ret
      have h1 := H1.out
      exact ⟨ret_bool (by simp [h1]), B2.out⟩
    · have H1 := hide h1
      have hd : ((xs.length : Int) == 1) = false := by simp; omega
      clear h1
      go_enter Try.func51, Try.ntmps51
      go_wp2_with fail
      clear hW1
      refine (isComplexS n _ xs w1 R1.out hl).mono ?_
      rw [Hcx.out]
      rintro e w2 ⟨rfl, b2⟩
      have B2 := hide (nxt B1.out b2)
      obtain ⟨e2_0, e2_1⟩ := At1.out.to b2
      clear e1_0 e1_1
      go_wp2
      go_ret
      have h1 := H1.out
      exact ⟨ret_bool (by simp [h1]), B2.out⟩

/-! ### ConePoints -/
def andAll (m : Nat) (xs : List Int) : Nat := xs.foldl (fun a x => a &&& x.toNat) m
theorem andAll_snoc (m : Nat) (xs : List Int) (x : Int) : andAll m (xs ++ [x]) = andAll m xs &&& x.toNat := by simp [andAll]
def coneOf (n : Int) (xs : List Int) : Int := if isCx n xs then (match xs with | [] => 0 | x :: _ => (andAll x.toNat xs : Int)) else 0
theorem coneOf_yes {n : Int} {xs : List Int} (h : isCx n xs = true) {m : Nat} (h0 : xs[0]? = some (m : Int)) : coneOf n xs = (andAll m xs : Int) := by
  cases xs with
  | nil => simp at h0
  | cons y ys =>
    simp at h0
    subst h0
    simp [coneOf, h]
theorem coneOf_nil {n : Int} {xs : List Int} (h : xs.length ≤ 0) : coneOf n xs = 0 := by
  obtain rfl : xs = [] := List.eq_nil_of_length_eq_zero (by omega)
  unfold coneOf
  split <;> rfl
theorem andAll_one {m : Nat} {xs : List Int} (h0 : xs[0]? = some (m : Int)) : andAll m (xs.take 1) = m := by
  rw [take_snoc _ 0 _ h0]
  simp [andAll]

/-! ### DegreeOf -/
def degTo (s : Nat) (xs : List Int) : Nat := xs.countP (fun x => sub s x.toNat)
theorem degTo_snoc (s : Nat) (xs : List Int) (x : Int) : degTo s (xs ++ [x]) = degTo s xs + if sub s x.toNat then 1 else 0 := by
  unfold degTo
  rw [List.countP_append]
  simp [List.countP_cons]
theorem degTo_le (s : Nat) (xs : List Int) : degTo s xs ≤ xs.length := List.countP_le_length
def degOf (n s : Int) (xs : List Int) : Int := if isCx n xs && decide (0 ≤ s ∧ s < 64) then (degTo s.toNat xs : Int) else -1
theorem degOf_no1 {n s : Int} {xs : List Int} (h : isCx n xs = false) : degOf n s xs = -1 := by simp [degOf, h]
theorem degOf_no2 {n s : Int} {xs : List Int} (h : ¬ (0 ≤ s ∧ s < 64)) : degOf n s xs = -1 := by
  unfold degOf
  rw [decide_eq_false h]
  simp
theorem degOf_yes {n : Int} {s : Nat} {xs : List Int} (h : isCx n xs = true) (hs : s < 64) : degOf n (s : Int) xs = (degTo s xs : Int) := by
  unfold degOf
  rw [h, decide_eq_true (by omega : (0 : Int) ≤ (s : Int) ∧ (s : Int) < 64)]
  simp
theorem isSetB6 {s : Int} : isSetB 6 s = decide (0 ≤ s ∧ s < 64) := by
  unfold isSetB
  simp
def andBitY (s t : Nat) : Bool := (bits BinOp.and IntKind.i64 (t : Int) (s : Int) == (s : Int)) == sub s t
theorem andBitY_all : ((List.range 64).all fun s => (List.range 64).all fun t => andBitY s t) = true := by decide +kernel
theorem and_bitY {s t : Nat} (hs : s < 64) (ht : t < 64) : (bits BinOp.and IntKind.i64 (t : Int) (s : Int) == (s : Int)) = sub s t := by
  have h1 := List.all_eq_true.1 (List.all_eq_true.1 andBitY_all s (List.mem_range.2 hs)) t (List.mem_range.2 ht)
  unfold andBitY at h1
  simpa using h1
theorem l1BitS (b : Bool) (w : World) : Calls Try.prog 121 #[.bool b] w fun e w' => e = .returned (.int .i64 (if b then 1 else 0)) ∧ w = w' := by
  cases b
  · go_enter Try.func121, Try.ntmps121
    go_wp2
    go_ret
    exact ⟨rfl, rfl⟩
  · go_enter Try.func121, Try.ntmps121
    go_wp2
    go_ret
    exact ⟨rfl, rfl⟩

theorem degreeOfI (n : Int) (v : Value) (xs : List Int) (t : Int) (w : World) (h : IntsAt w w.heap.size v xs) (hl : xs.length ≤ 1073741824) :
    Calls Try.prog 52 #[.agg #[.int .i64 n, v], .int .i64 t] w fun e w' => RetN w (degOf n t xs) e w' := by
  obtain ⟨A, c, rfl⟩ := reads_shape h
  obtain ⟨w1, hW1, at1, b1, z1⟩ := boxC w (.int .i64 n) (.slice A xs.length c) 42
  have r1 := now_ h b1
  have At1 := hide at1
  obtain ⟨e1_0, e1_1⟩ := at1
  have B1 := hide b1
  have R1 := hide r1
  clear h b1 r1
  cases hcx : isCx n xs
  · have Hcx := hide hcx
    clear hcx
    go_enter Try.func52, Try.ntmps52
    go_wp2_with fail
    clear hW1
    refine (isComplexI n _ xs w1 R1.out hl).mono ?_
    rw [Hcx.out]
    rintro e w2 ⟨rfl, b2⟩
    have B2 := hide (nxt B1.out b2)
    obtain ⟨e2_0, e2_1⟩ := At1.out.to b2
    clear e1_0 e1_1
    go_wp2
    go_ret
    exact ⟨ret_int (degOf_no1 Hcx.out).symm, B2.out⟩
  · have Hcx := hide hcx
    clear hcx
    by_cases hs : 0 ≤ t ∧ t < 64
    · have Hset : Hid (isSetB 6 t = true) := by show isSetB 6 t = true; rw [isSetB6]; exact decide_eq_true hs
      obtain ⟨s, rfl⟩ := Int.eq_ofNat_of_zero_le hs.1
      have hs64 : s < 64 := by omega
      go_enter Try.func52, Try.ntmps52
      go_wp2_with fail
      clear hW1
      refine (isComplexI n _ xs w1 R1.out hl).mono ?_
      rw [Hcx.out]
      rintro e w2 ⟨rfl, b2⟩
      have B2 := hide (nxt B1.out b2)
      obtain ⟨e2_0, e2_1⟩ := At1.out.to b2
      clear e1_0 e1_1
      have He := hide (cxElems (now_ R1.out b2) Hcx.out)
      clear b2
      go_wp2_with (go_at_call 86; refine (isSetI _ _ _).mono ?_; rw [Hset.out]; rintro e wx ⟨rfl, rfl⟩)
      go_loop [5, 7, 19] (fun a _ i => ∃ k : Nat, k ≤ xs.length ∧ i = .int .i64 k ∧ degTo s (xs.take k) ≤ k ∧ a = .int .i64 (degTo s (xs.take k) : Int)) (fun _ _ i => xs.length - (intOf i).toNat)
      case atStart => exact ⟨0, by omega, rfl, by simp [degTo], rfl⟩
      case round =>
        obtain ⟨k, hk, rfl, hacc, rfl⟩ := hrel
        by_cases hlt : k < xs.length
        · obtain ⟨b', o', x, ⟨c', hv⟩, hx, hx64, hcell⟩ := He.out k hlt
          cases hv
          have Ht := hide (take_snoc _ _ _ hx)
          have hnb := not_bitX hs64 hx64
          clear hx
          cases hsub : sub s x
          · have Hs2 := hide hsub
            rw [hsub] at hnb
            clear hsub
            go_wp2
            go_round
            case rel => exact ⟨k + 1, by omega, by go_num, by rw [Ht.out, degTo_snoc]; simp [Hs2.out]; omega, by rw [Ht.out, degTo_snoc]; simp [Hs2.out]⟩
            case measure => simp [intOf]; omega
          · have Hs2 := hide hsub
            rw [hsub] at hnb
            clear hsub
            go_wp2
            go_round
            case rel => exact ⟨k + 1, by omega, by go_num, by rw [Ht.out, degTo_snoc]; simp [Hs2.out]; omega, by rw [Ht.out, degTo_snoc]; simp [Hs2.out]⟩
            case measure => simp [intOf]; omega
        · have hk2 : xs.length ≤ k := by omega
          have Ht := hide (take_all xs k hk2)
          go_wp2
          go_ret
          exact ⟨ret_int (by rw [degOf_yes Hcx.out hs64, Ht.out]), B2.out⟩
    · have Hset : Hid (isSetB 6 t = false) := by show isSetB 6 t = false; rw [isSetB6]; exact decide_eq_false hs
      have Hs := hide hs
      clear hs
      go_enter Try.func52, Try.ntmps52
      go_wp2_with fail
      clear hW1
      refine (isComplexI n _ xs w1 R1.out hl).mono ?_
      rw [Hcx.out]
      rintro e w2 ⟨rfl, b2⟩
      have B2 := hide (nxt B1.out b2)
      obtain ⟨e2_0, e2_1⟩ := At1.out.to b2
      clear e1_0 e1_1
      go_wp2_with (go_at_call 86; refine (isSetI _ _ _).mono ?_; rw [Hset.out]; rintro e wx ⟨rfl, rfl⟩)
      go_ret
      exact ⟨ret_int (degOf_no2 Hs.out).symm, B2.out⟩

theorem degreeOfS (n : Int) (v : Value) (xs : List Int) (t : Int) (w : World) (h : IntsAt w w.heap.size v xs) (hl : xs.length ≤ 1073741824) :
    Calls Try.prog 53 #[.agg #[.int .i64 n, v], .int .i64 t] w fun e w' => RetN w (degOf n t xs) e w' := by
  obtain ⟨A, c, rfl⟩ := reads_shape h
  obtain ⟨w1, hW1, at1, b1, z1⟩ := boxC w (.int .i64 n) (.slice A xs.length c) 42
  have r1 := now_ h b1
  have At1 := hide at1
  obtain ⟨e1_0, e1_1⟩ := at1
  have B1 := hide b1
  have R1 := hide r1
  clear h b1 r1
  cases hcx : isCx n xs
  · have Hcx := hide hcx
    clear hcx
    go_enter Try.func53, Try.ntmps53
    go_wp2_with fail
    clear hW1
    refine (isComplexS n _ xs w1 R1.out hl).mono ?_
    rw [Hcx.out]
    rintro e w2 ⟨rfl, b2⟩
    have B2 := hide (nxt B1.out b2)
    obtain ⟨e2_0, e2_1⟩ := At1.out.to b2
    clear e1_0 e1_1
    go_wp2
    go_ret
    exact ⟨ret_int (degOf_no1 Hcx.out).symm, B2.out⟩
  · have Hcx := hide hcx
    clear hcx
    by_cases hs : 0 ≤ t ∧ t < 64
    · have Hset : Hid (inB t 0 63 = true) := by show inB t 0 63 = true; exact inB_mk (by omega)
      obtain ⟨s, rfl⟩ := Int.eq_ofNat_of_zero_le hs.1
      have hs64 : s < 64 := by omega
      go_enter Try.func53, Try.ntmps53
      go_wp2_with fail
      clear hW1
      refine (isComplexS n _ xs w1 R1.out hl).mono ?_
      rw [Hcx.out]
      rintro e w2 ⟨rfl, b2⟩
      have B2 := hide (nxt B1.out b2)
      obtain ⟨e2_0, e2_1⟩ := At1.out.to b2
      clear e1_0 e1_1
      have He := hide (cxElems (now_ R1.out b2) Hcx.out)
      clear b2
      go_wp2_with (go_at_call 120; refine (l1InS _ _ _ _).mono ?_; rw [Hset.out]; rintro e wx ⟨rfl, rfl⟩)
      go_loop [5, 6] (fun a i => ∃ k : Nat, k ≤ xs.length ∧ i = .int .i64 k ∧ degTo s (xs.take k) ≤ k ∧ a = .int .i64 (degTo s (xs.take k) : Int)) (fun _ i => xs.length - (intOf i).toNat)
      case atStart => exact ⟨0, by omega, rfl, by simp [degTo], rfl⟩
      case round =>
        obtain ⟨k, hk, rfl, hacc, rfl⟩ := hrel
        by_cases hlt : k < xs.length
        · obtain ⟨b', o', x, ⟨c', hv⟩, hx, hx64, hcell⟩ := He.out k hlt
          cases hv
          have Ht := hide (take_snoc _ _ _ hx)
          have hnb := and_bitY hs64 hx64
          clear hx
          cases hsub : sub s x
          · have Hs2 := hide hsub
            rw [hsub] at hnb
            clear hsub
            go_wp2_with (go_at_call 121; refine (l1BitS _ _).mono ?_; rintro e wx ⟨rfl, rfl⟩)
            go_round
            case rel => exact ⟨k + 1, by omega, by go_num, by rw [Ht.out, degTo_snoc]; simp [Hs2.out]; omega, by rw [Ht.out, degTo_snoc]; simp [Hs2.out]⟩
            case measure => simp [intOf]; omega
          · have Hs2 := hide hsub
            rw [hsub] at hnb
            clear hsub
            go_wp2_with (go_at_call 121; refine (l1BitS _ _).mono ?_; rintro e wx ⟨rfl, rfl⟩)
            go_round
            case rel => exact ⟨k + 1, by omega, by go_num, by rw [Ht.out, degTo_snoc]; simp [Hs2.out]; omega, by rw [Ht.out, degTo_snoc]; simp [Hs2.out]⟩
            case measure => simp [intOf]; omega
        · have hk2 : xs.length ≤ k := by omega
          have Ht := hide (take_all xs k hk2)
          go_wp2
          go_ret
          exact ⟨ret_int (by rw [degOf_yes Hcx.out hs64, Ht.out]), B2.out⟩
    · have Hset : Hid (inB t 0 63 = false) := by show inB t 0 63 = false; exact inB_no (by omega)
      have Hs := hide hs
      clear hs
      go_enter Try.func53, Try.ntmps53
      go_wp2_with fail
      clear hW1
      refine (isComplexS n _ xs w1 R1.out hl).mono ?_
      rw [Hcx.out]
      rintro e w2 ⟨rfl, b2⟩
      have B2 := hide (nxt B1.out b2)
      obtain ⟨e2_0, e2_1⟩ := At1.out.to b2
      clear e1_0 e1_1
      go_wp2_with (go_at_call 120; refine (l1InS _ _ _ _).mono ?_; rw [Hset.out]; rintro e wx ⟨rfl, rfl⟩)
      go_ret
      exact ⟨ret_int (degOf_no2 Hs.out).symm, B2.out⟩
end

/- Walks: faces of a complex: facesIn, l3Has, HasFace, topSize, DimOf, IsPure. Printed by gen/w12.py. -/
section
open Go.RowKit

theorem facesInI (n : Int) (v : Value) (xs : List Int) (w : World) (h : IntsAt w w.heap.size v xs) (hl : xs.length ≤ 1073741824) (hcx : isCx n xs = true) :
    Calls Try.prog 114 #[.agg #[.int .i64 n, v]] w fun e w' => e = .returned (.int .u64 (fam (faceP xs) : Int)) ∧ Below w.heap.size w w' := by
  obtain ⟨A, c, rfl⟩ := reads_shape h
  obtain ⟨w1, hW1, at1, b1, z1⟩ := boxC w (.int .i64 n) (.slice A xs.length c) 42
  have He := hide (cxElems (now_ h b1) hcx)
  obtain ⟨e1_0, e1_1⟩ := at1
  have B1 := hide b1
  clear h b1
  go_enter Try.func114, Try.ntmps114
  go_wp2_with fail
  clear hW1
  go_loop [3, 5, 9] (fun a _ i => ∃ k : Nat, k ≤ xs.length ∧ i = .int .i64 k ∧ a = .int .u64 (fam (faceP (xs.take k)) : Int)) (fun _ _ i => xs.length - (intOf i).toNat)
  case atStart => exact ⟨0, by omega, rfl, by rw [List.take_zero, faceP_nil, fam_zero]; rfl⟩
  case round =>
    obtain ⟨k, hk, rfl, rfl⟩ := hrel
    by_cases hlt : k < xs.length
    · obtain ⟨b, o, s, ⟨c', hv⟩, hx, hs, hcell⟩ := He.out k hlt
      cases hv
      have ho := or_fams (faceP (xs.take k)) (fun u => sub u s)
      have Ht : Hid (fam (faceP (xs.take (k + 1))) = fam (fun u => faceP (xs.take k) u || sub u s)) := by
        show _ = _
        rw [take_snoc _ _ _ hx]
        congr 1
        funext u
        rw [faceP_snoc]
        rfl
      clear hx
      go_wp2_with (go_at_call 151; refine (subsetFamilyI s hs _).mono ?_; rintro e wx ⟨rfl, rfl⟩)
      go_round
      case rel => exact ⟨k + 1, by omega, by go_num, by rw [Ht.out]⟩
      case measure => simp [intOf]; omega
    · have hk2 : xs.length ≤ k := by omega
      have Ht := hide (take_all xs k hk2)
      go_wp2
      go_ret
      exact ⟨ret_int (by rw [Ht.out]), B1.out⟩

theorem l3HasS (n : Int) (v : Value) (xs : List Int) (s : Nat) (w : World) (h : IntsAt w w.heap.size v xs) (hl : xs.length ≤ 1073741824) (hcx : isCx n xs = true) (hs : s < 64) :
    Calls Try.prog 122 #[.agg #[.int .i64 n, v], .int .i64 (s : Int)] w fun e w' => RetB w (faceP xs s) e w' := by
  obtain ⟨A, c, rfl⟩ := reads_shape h
  obtain ⟨w1, hW1, at1, b1, z1⟩ := boxC w (.int .i64 n) (.slice A xs.length c) 42
  have He := hide (cxElems (now_ h b1) hcx)
  obtain ⟨e1_0, e1_1⟩ := at1
  have B1 := hide b1
  clear h b1
  go_enter Try.func122, Try.ntmps122
  go_wp2_with fail
  clear hW1
  go_loop [5] (fun i => ∃ k : Nat, k ≤ xs.length ∧ i = .int .i64 k ∧ faceP (xs.take k) s = false) (fun i => xs.length - (intOf i).toNat)
  case atStart => exact ⟨0, by omega, rfl, rfl⟩
  case round =>
    obtain ⟨k, hk, rfl, hno⟩ := hrel
    by_cases hlt : k < xs.length
    · obtain ⟨b, o, x, ⟨c', hv⟩, hx, hx64, hcell⟩ := He.out k hlt
      cases hv
      have ho := and_bitY hs hx64
      have Hno := hide hno
      have Ht := hide (take_snoc _ _ _ hx)
      have Hin := hide (List.mem_of_getElem? hx)
      clear hx hno
      cases hsub : sub s x
      · have Hs2 := hide hsub
        rw [hsub] at ho
        clear hsub
        go_wp2
        go_round
        case rel => exact ⟨k + 1, by omega, by go_num, by rw [Ht.out, faceP_snoc, Hno.out, Int.toNat_natCast, Hs2.out]; rfl⟩
        case measure => simp [intOf]; omega
      · have Hs2 := hide hsub
        rw [hsub] at ho
        clear hsub
        go_wp2
        go_ret
        exact ⟨ret_bool (List.any_eq_true.2 ⟨_, Hin.out, by rw [Int.toNat_natCast]; exact Hs2.out⟩).symm, B1.out⟩
    · have hk2 : xs.length ≤ k := by omega
      have Ht := hide (take_all xs k hk2)
      have Hno := hide hno
      clear hno
      go_wp2
      go_ret
      exact ⟨ret_bool (by have := Hno.out; rw [Ht.out] at this; exact this.symm), B1.out⟩

theorem topSizeI (P : Nat → Bool) (w : World) : Calls Try.prog 118 #[.int .u64 (fam P : Int)] w fun e w' => e = .returned (.int .i64 (topOf P)) ∧ w = w' := by
  have hF := fam_lt P
  go_enter Try.func118, Try.ntmps118
  go_wp2
  go_loop [3, 4] (fun a i => ∃ k : Nat, k ≤ 64 ∧ i = .int .i64 k ∧ a = .int .i64 (topTo P k)) (fun _ i => 64 - (intOf i).toNat)
  case atStart => exact ⟨0, by omega, rfl, rfl⟩
  case round =>
    obtain ⟨k, hk, rfl, rfl⟩ := hrel
    by_cases hlt : k < 64
    · have hb := fam_bit P k
      rw [decide_eq_true hlt, Bool.true_and] at hb
      have hsz := sizeOf_yes hlt
      have Hb := hide hb
      have Hsz := hide hsz
      clear hb hsz
      have arm : True := trivial
      cases hp : P k
      · have Hno := hide (topTo_no (P := P) (k := k) (by rw [hp]; simp))
        have hb := Hb.out
        rw [hp] at hb
        clear hp
        go_wp2_with (go_at_call 130; refine (hasSetI _ k hF hlt _).mono ?_; rw [hb]; rintro e wx ⟨rfl, rfl⟩)
        go_round
        case rel => exact ⟨k + 1, by omega, by go_num, by rw [Hno.out]⟩
        case measure => simp [intOf]; omega
      · have hb := Hb.out
        rw [hp] at hb
        by_cases hgt : topTo P k < (pc k : Int)
        · have Hy := hide (topTo_yes hp hgt)
          have hd : decide ((pc k : Int) > topTo P k) = true := decide_eq_true hgt
          clear hp hgt
          go_wp2_with (first | (go_at_call 130; refine (hasSetI _ k hF hlt _).mono ?_; rw [hb]; rintro e wx ⟨rfl, rfl⟩) | (go_at_call 94; refine (sizeOfI _ _).mono ?_; rw [Hsz.out]; rintro e wx ⟨rfl, rfl⟩))
          go_round
          case rel => exact ⟨k + 1, by omega, by go_num, by rw [Hy.out]⟩
          case measure => simp [intOf]; omega
        · have Hno := hide (topTo_no (P := P) (k := k) (fun h => hgt h.2))
          have hd : decide ((pc k : Int) > topTo P k) = false := decide_eq_false hgt
          clear hp hgt
          go_wp2_with (first | (go_at_call 130; refine (hasSetI _ k hF hlt _).mono ?_; rw [hb]; rintro e wx ⟨rfl, rfl⟩) | (go_at_call 94; refine (sizeOfI _ _).mono ?_; rw [Hsz.out]; rintro e wx ⟨rfl, rfl⟩))
          go_round
          case rel => exact ⟨k + 1, by omega, by go_num, by rw [Hno.out]⟩
          case measure => simp [intOf]; omega
    · obtain rfl : k = 64 := by omega
      go_wp2
      go_ret
      exact ⟨rfl, rfl⟩
theorem topOf_bd (P : Nat → Bool) : -1 ≤ topOf P ∧ topOf P ≤ 6 := by
  rcases topTo_ge P 64 with h | h
  · exact h
  · omega

theorem dimOfI (n : Int) (v : Value) (xs : List Int) (w : World) (h : IntsAt w w.heap.size v xs) (hl : xs.length ≤ 1073741824) :
    Calls Try.prog 40 #[.agg #[.int .i64 n, v]] w fun e w' => RetN w (dimOf n xs) e w' := by
  obtain ⟨A, c, rfl⟩ := reads_shape h
  obtain ⟨w1, hW1, at1, b1, z1⟩ := boxC w (.int .i64 n) (.slice A xs.length c) 42
  have r1 := now_ h b1
  have At1 := hide at1
  obtain ⟨e1_0, e1_1⟩ := at1
  have B1 := hide b1
  have R1 := hide r1
  clear h b1 r1
  cases hcx : isCx n xs
  · have Hcx := hide hcx
    clear hcx
    go_enter Try.func40, Try.ntmps40
    go_wp2_with fail
    clear hW1
    refine (isComplexI n _ xs w1 R1.out hl).mono ?_
    rw [Hcx.out]
    rintro e w2 ⟨rfl, b2⟩
    have B2 := hide (nxt B1.out b2)
    obtain ⟨e2_0, e2_1⟩ := At1.out.to b2
    clear e1_0 e1_1
    go_wp2
    go_ret
    exact ⟨ret_int (dimOf_no Hcx.out).symm, B2.out⟩
  · have Hcx := hide hcx
    clear hcx
    go_enter Try.func40, Try.ntmps40
    go_wp2_with fail
    clear hW1
    refine (isComplexI n _ xs w1 R1.out hl).mono ?_
    rw [Hcx.out]
    rintro e w2 ⟨rfl, b2⟩
    have B2 := hide (nxt B1.out b2)
    obtain ⟨e2_0, e2_1⟩ := At1.out.to b2
    clear e1_0 e1_1
    have Hr2 := hide (now_ R1.out b2)
    clear b2
    have hbd := topOf_bd (faceP xs)
    go_wp2_with fail
    refine (facesInI n _ xs _ Hr2.out hl Hcx.out).mono ?_
    rintro e w3 ⟨rfl, b3⟩
    have B3 := hide (nxt B2.out b3)
    go_wp2_with (go_at_call 118; refine (topSizeI _ _).mono ?_; rintro e wx ⟨rfl, rfl⟩)
    go_ret
    exact ⟨ret_int (by unfold dimOf; rw [Hcx.out]; rfl), B3.out⟩

theorem dimOfS (n : Int) (v : Value) (xs : List Int) (w : World) (h : IntsAt w w.heap.size v xs) (hl : xs.length ≤ 1073741824) :
    Calls Try.prog 41 #[.agg #[.int .i64 n, v]] w fun e w' => RetN w (dimOf n xs) e w' := by
  obtain ⟨A, c, rfl⟩ := reads_shape h
  obtain ⟨w1, hW1, at1, b1, z1⟩ := boxC w (.int .i64 n) (.slice A xs.length c) 42
  have r1 := now_ h b1
  have At1 := hide at1
  obtain ⟨e1_0, e1_1⟩ := at1
  have B1 := hide b1
  have R1 := hide r1
  clear h b1 r1
  cases hcx : isCx n xs
  · have Hcx := hide hcx
    clear hcx
    go_enter Try.func41, Try.ntmps41
    go_wp2_with fail
    clear hW1
    refine (isComplexS n _ xs w1 R1.out hl).mono ?_
    rw [Hcx.out]
    rintro e w2 ⟨rfl, b2⟩
    have B2 := hide (nxt B1.out b2)
    obtain ⟨e2_0, e2_1⟩ := At1.out.to b2
    clear e1_0 e1_1
    go_wp2
    go_ret
    exact ⟨ret_int (dimOf_no Hcx.out).symm, B2.out⟩
  · have Hcx := hide hcx
    clear hcx
    by_cases h0 : 0 < xs.length
    · have hd : ((xs.length : Int) == 0) = false := by rw [beq_eq_false_iff_ne]; omega
      go_enter Try.func41, Try.ntmps41
      go_wp2_with fail
      clear hW1
      refine (isComplexS n _ xs w1 R1.out hl).mono ?_
      rw [Hcx.out]
      rintro e w2 ⟨rfl, b2⟩
      have B2 := hide (nxt B1.out b2)
      obtain ⟨e2_0, e2_1⟩ := At1.out.to b2
      clear e1_0 e1_1
      obtain ⟨b, o, s, ⟨c', hv⟩, hx, hs, hcell⟩ := cxElems (now_ R1.out b2) Hcx.out (xs.length - 1) (by omega)
      cases hv
      have Hx := hide hx
      have hsb : (s : Int) ≤ 9223372036854775807 := by omega
      have hpc := pc_le6 s hs
      clear hx b2
      go_wp2_with (go_at_call 117; refine (l2SizeS _ _ hsb).mono ?_; rw [Int.toNat_natCast]; rintro e wx ⟨rfl, rfl⟩)
      go_ret
      exact ⟨ret_int (by rw [dimOf_last Hcx.out Hx.out, Int.toNat_natCast]), B2.out⟩
    · have hge : xs.length ≤ 0 := by omega
      have hd : ((xs.length : Int) == 0) = true := by rw [beq_iff_eq]; omega
      have Hge := hide hge
      clear h0 hge
      go_enter Try.func41, Try.ntmps41
      go_wp2_with fail
      clear hW1
      refine (isComplexS n _ xs w1 R1.out hl).mono ?_
      rw [Hcx.out]
      rintro e w2 ⟨rfl, b2⟩
      have B2 := hide (nxt B1.out b2)
      obtain ⟨e2_0, e2_1⟩ := At1.out.to b2
      clear e1_0 e1_1
      go_wp2
      go_ret
      exact ⟨ret_int (dimOf_nil Hcx.out Hge.out).symm, B2.out⟩
end

/- Walks: FacesOf. -/
section
open Go.RowKit

def facesOf (n : Int) (xs : List Int) : List Nat := if isCx n xs then listOf (faceP xs) else []
theorem facesOf_yes {n : Int} {xs : List Int} (h : isCx n xs = true) : facesOf n xs = listOf (faceP xs) := by simp [facesOf, h]
theorem facesOf_no {n : Int} {xs : List Int} (h : isCx n xs = false) : facesOf n xs = [] := by simp [facesOf, h]
theorem facesOf_len (n : Int) (xs : List Int) : (facesOf n xs).length ≤ 448 := by
  unfold facesOf
  split
  · exact listOf_len _
  · simp
def facesTo (xs : List Int) (k : Nat) : List Nat := (List.range k).filter (faceP xs)
theorem facesTo_yes {xs : List Int} {k : Nat} (h : faceP xs k = true) : facesTo xs (k + 1) = facesTo xs k ++ [k] := by simp [facesTo, List.range_succ, h]
theorem facesTo_no {xs : List Int} {k : Nat} (h : faceP xs k = false) : facesTo xs (k + 1) = facesTo xs k := by simp [facesTo, List.range_succ, h]
theorem facesTo_len (xs : List Int) (k : Nat) : (facesTo xs k).length ≤ k := by
  have := List.length_filter_le (faceP xs) (List.range k)
  simpa [facesTo] using this
theorem in_zs (l : List Nat) (s : Nat) : inList (zs l) s = l.contains s := by
  unfold inList zs
  rw [Bool.eq_iff_iff, List.contains_iff_mem, List.contains_iff_mem, List.mem_map]
  constructor
  · rintro ⟨a, h, e⟩
    obtain rfl : a = s := Int.ofNat.inj e
    exact h
  · intro h
    exact ⟨s, h, rfl⟩
theorem facesTo_in (xs : List Int) {s : Nat} (hs : s < 64) : inList (zs (facesTo xs 64)) s = faceP xs s := by
  rw [in_zs, Bool.eq_iff_iff, List.contains_iff_mem]
  unfold facesTo
  rw [List.mem_filter, List.mem_range]
  exact ⟨fun h => h.2, fun h => ⟨hs, h⟩⟩
theorem zs_all {l : List Nat} (h : ∀ s ∈ l, s < 64) : allSets (zs l) = true := by
  refine List.all_eq_true.2 fun x hx => decide_eq_true ?_
  obtain ⟨m, hm, rfl⟩ := List.mem_map.1 hx
  have := h m hm
  constructor
  · show (0 : Int) ≤ (m : Int); omega
  · show (m : Int) < 64; omega
theorem facesTo_all (xs : List Int) : allSets (zs (facesTo xs 64)) = true := zs_all fun _ hs => List.mem_range.1 (List.mem_filter.1 hs).1
theorem zs_len20 (l : List Nat) : (zs l).length = l.length := List.length_map _
theorem listOf_none : listOf (inList []) = [] := by decide +kernel

theorem facesOfS (n : Int) (v : Value) (xs : List Int) (w : World) (h : IntsAt w w.heap.size v xs) (hl : xs.length ≤ 1073741824) :
    Calls Try.prog 55 #[.agg #[.int .i64 n, v]] w fun e w' => RetI 3 w (zs (facesOf n xs)) e w' := by
  obtain ⟨A, c, rfl⟩ := reads_shape h
  obtain ⟨w1, hW1, at1, b1, z1⟩ := boxC w (.int .i64 n) (.slice A xs.length c) 42
  have r1 := now_ h b1
  have At1 := hide at1
  have B1 := hide b1
  have R1 := hide r1
  obtain ⟨e1_0, e1_1⟩ := at1
  have Z1 := hide z1
  clear h b1 r1 z1
  cases hcx : isCx n xs
  · have Hcx := hide hcx
    clear hcx
    go_enter Try.func55, Try.ntmps55
    go_wp2_with fail
    clear hW1
    obtain ⟨ho, hbw⟩ : OwnV 3 (w1.alloc (.cells #[] 3)) w1.heap.size (.slice (some ⟨w1.heap.size, 0, none⟩) 0 0) (ints []) ∧ Below w1.heap.size w1 (w1.alloc (.cells #[] 3)) := ⟨own_empty _ _, below_alloc _ _⟩
    have Ho := hide ho
    have Hbw := hide hbw
    clear ho
    have R2 := hide (now_ R1.out hbw)
    obtain ⟨e2_0, e2_1⟩ := At1.out.to hbw
    clear e1_0 e1_1 hbw
    refine wp_loop_rounds 1 ?_
    rw [rounds_succ]
    go_wp2_with fail
    refine (isComplexS n _ xs _ R2.out hl).mono ?_
    rw [Hcx.out]
    rintro e w3 ⟨rfl, b3⟩
    have Ho3 := hide (own_below Ho.out b3)
    have Hb3 := hide (nxt Hbw.out b3)
    clear b3 e2_0 e2_1
    go_wp2_with fail
    refine (l2OrderS _ [] _ (own_reads Ho3.out) (by simp) rfl).mono ?_
    rintro e w4 ⟨v4, rfl, o4, b4⟩
    have B4 : Hid (Below w.heap.size w w4) := nxt (nxt B1.out Hb3.out) b4
    have O4 : Hid (OwnV 3 w4 w.heap.size v4 (ints (zs (listOf (inList []))))) := own_mono o4 (nxt B1.out Hb3.out).size
    clear b4 o4
    go_wp2
    go_ret
    exact ⟨_, rfl, by rw [facesOf_no Hcx.out]; have := O4.out; rw [listOf_none] at this; exact this, B4.out⟩
  · have Hcx := hide hcx
    clear hcx
    go_enter Try.func55, Try.ntmps55
    go_wp2_with fail
    clear hW1
    obtain ⟨ho, hbw⟩ : OwnV 3 (w1.alloc (.cells #[] 3)) w1.heap.size (.slice (some ⟨w1.heap.size, 0, none⟩) 0 0) (ints (zs (facesTo xs 0))) ∧ Below w1.heap.size w1 (w1.alloc (.cells #[] 3)) := ⟨own_empty _ _, below_alloc _ _⟩
    have Ho := hide ho
    have Hbw := hide hbw
    clear ho hbw e1_0 e1_1
    go_loopw [3, 4] (fun v i wr => ∃ k : Nat, k ≤ 64 ∧ i = .int .i64 k ∧ Hid (OwnV 3 wr w1.heap.size v (ints (zs (facesTo xs k)))) ∧ Hid (Below w1.heap.size w1 wr)) (fun _ i _ => 64 - (intOf i).toNat)
    case atStart => exact ⟨0, by omega, rfl, Ho, Hbw⟩
    case round =>
      obtain ⟨k, hk, rfl, hown, hb⟩ := hrel
      by_cases hlt : k < 64
      · obtain ⟨e2_0, e2_1⟩ := At1.out.to hb.out
        have hdk : decide ((k : Int) < 64) = true := by simp; omega
        go_wp2_with fail
        refine (isComplexS n _ xs wr (now_ R1.out hb.out) hl).mono ?_
        rw [Hcx.out]
        rintro e w3 ⟨rfl, b3⟩
        have hb3 := nxt hb.out b3
        have Hb3 := hide hb3
        have Ho3 := hide (own_below hown.out b3)
        obtain ⟨e3_0, e3_1⟩ := At1.out.to hb3
        clear e2_0 e2_1 hb3 b3 hb hown
        go_wp2_with fail
        refine (l3HasS n _ xs k w3 (now_ R1.out Hb3.out) hl Hcx.out hlt).mono ?_
        cases hf : faceP xs k
        · have Hn := hide (facesTo_no hf)
          clear hf
          rintro e w4 ⟨rfl, b4⟩
          have Hb4 := hide (nxt Hb3.out b4)
          have Ho4 := hide (own_below Ho3.out b4)
          clear e3_0 e3_1 b4
          go_wp2
          go_roundw
          case rel => exact ⟨k + 1, by omega, by go_num, by rw [Hn.out]; exact Ho4, Hb4⟩
          case measure => simp [intOf]; omega
        · have Hy := hide (facesTo_yes hf)
          clear hf
          rintro e w4 ⟨rfl, b4⟩
          have Hb4 := hide (nxt Hb3.out b4)
          have ho4 := own_below Ho3.out b4
          have hsz := Hb4.out.size
          have hlen : (zs (facesTo xs k)).length < 17179869184 := by have := facesTo_len xs k; rw [zs_len20]; omega
          clear e3_0 e3_1 b4
          go_wp2_with (at_builtin; refine wpList_appI ho4 (k : Int) Try.underlying36 infoI rfl _ _ rfl rfl rfl hlen hsz ?_; intro v' w5 hown5 hb5 hg5)
          have Hown5 : Hid (OwnV 3 w5 w1.heap.size v' (ints (zs (facesTo xs (k + 1))))) := by show OwnV _ _ _ _ _; rw [Hy.out, zs_snoc]; exact hown5
          have Hb5 : Hid (Below w1.heap.size w1 w5) := Hb4.out.trans hb5
          go_wp2
          go_roundw
          case rel => exact ⟨k + 1, by omega, by go_num, Hown5, Hb5⟩
          case measure => simp [intOf]; omega
      · obtain rfl : k = 64 := by omega
        go_wp2_with fail
        refine (l2OrderS _ (zs (facesTo xs 64)) wr (own_reads hown.out) (by have := facesTo_len xs 64; rw [zs_len20]; omega) (facesTo_all xs)).mono ?_
        rintro e w4 ⟨v4, rfl, o4, b4⟩
        have B4 : Hid (Below w.heap.size w w4) := nxt (nxt B1.out hb.out) b4
        have O4 : Hid (OwnV 3 w4 w.heap.size v4 (ints (zs (facesOf n xs)))) := by
          rw [facesOf_yes Hcx.out]
          have := own_mono o4 (nxt B1.out hb.out).size
          rwa [listOf_congr (fun s hs => facesTo_in xs hs)] at this
        clear b4 o4
        go_wp2
        go_ret
        exact ⟨_, rfl, O4.out, B4.out⟩
end

/- Plain laws: faces counted by size. No program is named here. -/
section
/-- The sets of k points in a list. -/
def sized (k : Int) (l : List Nat) : List Nat := l.filter (fun s => decide ((pc s : Int) = k))
theorem sized_yes {k : Int} {l : List Nat} {s : Nat} (h : (pc s : Int) = k) : sized k (l ++ [s]) = sized k l ++ [s] := by simp [sized, h]
theorem sized_no {k : Int} {l : List Nat} {s : Nat} (h : ¬ (pc s : Int) = k) : sized k (l ++ [s]) = sized k l := by simp [sized, h]
theorem sized_len (k : Int) (l : List Nat) : (sized k l).length ≤ l.length := List.length_filter_le _ _
theorem sized_neg {k : Int} (h : k < 0) (l : List Nat) : sized k l = [] := by
  unfold sized
  rw [List.filter_eq_nil_iff]
  intro s _
  simp
  omega
theorem layer_and (P : Nat → Bool) (k j : Nat) : layer (fun s => P s && decide ((pc s : Int) = (k : Int))) j = if j = k then layer P k else [] := by
  by_cases h : j = k
  · subst h
    rw [if_pos rfl]
    unfold layer
    apply List.filter_congr
    intro s _
    by_cases hp : pc s = j
    · simp [hp]
    · have : ¬ (pc s : Int) = (j : Int) := by omega
      simp [hp, this]
  · rw [if_neg h]
    unfold layer
    rw [List.filter_eq_nil_iff]
    intro s _
    by_cases hp : pc s = j
    · have : ¬ (pc s : Int) = (k : Int) := by omega
      simp [this]
    · simp [hp]
theorem flatMap_one {α : Type} (X : List α) (k : Nat) : ∀ n, (List.range n).flatMap (fun j => if j = k then X else []) = if k < n then X else []
  | 0 => by simp
  | n + 1 => by
    rw [List.range_succ, List.flatMap_append, flatMap_one X k n]
    rcases Nat.lt_trichotomy k n with h | h | h
    · rw [if_pos h, if_pos (by omega)]
      simp [show ¬ n = k by omega]
    · subst h
      simp
    · rw [if_neg (by omega), if_neg (by omega)]
      simp [show ¬ n = k by omega]
theorem layer_six (P : Nat → Bool) {k : Nat} (h : 6 < k) : layer P k = [] := by
  unfold layer
  rw [List.filter_eq_nil_iff]
  intro s hs
  have := pc_le6 s (List.mem_range.1 hs)
  simp
  intro _
  omega
theorem sized_listOf (P : Nat → Bool) (k : Nat) : sized (k : Int) (listOf P) = layer P k := by
  unfold sized
  rw [listOf_filter]
  unfold listOf
  rw [show (fun j => layer (fun s => P s && decide ((pc s : Int) = (k : Int))) j) = fun j => if j = k then layer P k else [] from funext fun j => layer_and P k j, flatMap_one]
  by_cases h : k < 7
  · rw [if_pos h]
  · rw [if_neg h, layer_six P (by omega)]
theorem layer_above {P : Nat → Bool} {k : Nat} (h : topOf P < (k : Int)) : layer P k = [] := by
  unfold layer
  rw [List.filter_eq_nil_iff]
  intro s hs hp
  rw [Bool.and_eq_true] at hp
  have h1 := (topTo_spec P 64).1 s (List.mem_range.1 hs) hp.1
  have h2 : pc s = k := by simpa using hp.2
  unfold topOf at h
  omega

/-! ### the counts -/
def cntM (l : List Nat) (m : Nat) : List Int := (List.range m).map fun (j : Nat) => ((sized (j : Int) l).length : Int)
theorem cntM_len (l : List Nat) (m : Nat) : (cntM l m).length = m := by simp [cntM]
theorem cntM_nil : cntM [] 0 = [] := rfl
theorem cntM_get (l : List Nat) {m j : Nat} (h : j < m) : (cntM l m)[j]? = some ((sized (j : Int) l).length : Int) := by simp [cntM, h]
/-- One more than the greatest size. -/
def mxL : List Nat → Nat := List.foldl (fun m s => max m (pc s + 1)) 0
theorem mxL_snoc (l : List Nat) (s : Nat) : mxL (l ++ [s]) = max (mxL l) (pc s + 1) := by simp [mxL, List.foldl_append]
theorem foldl_mx (l : List Nat) : ∀ m, m ≤ l.foldl (fun m s => max m (pc s + 1)) m ∧ (∀ s ∈ l, pc s < l.foldl (fun m s => max m (pc s + 1)) m) ∧ (l.foldl (fun m s => max m (pc s + 1)) m = m ∨ ∃ s ∈ l, l.foldl (fun m s => max m (pc s + 1)) m = pc s + 1) := by
  induction l with
  | nil => intro m; exact ⟨Nat.le_refl _, by simp, .inl rfl⟩
  | cons a l ih =>
    intro m
    obtain ⟨h1, h2, h3⟩ := ih (max m (pc a + 1))
    rw [List.foldl_cons]
    refine ⟨by omega, ?_, ?_⟩
    · intro s hs
      rcases List.mem_cons.1 hs with rfl | hs
      · omega
      · exact h2 s hs
    · rcases h3 with h3 | ⟨s, hs, h3⟩
      · rcases Nat.le_total (pc a + 1) m with h | h
        · left; omega
        · right; exact ⟨a, by simp, by omega⟩
      · right; exact ⟨s, by simp [hs], h3⟩
theorem mxL_lt (l : List Nat) : ∀ s ∈ l, pc s < mxL l := (foldl_mx l 0).2.1
theorem mxL_top (P : Nat → Bool) : (mxL (listOf P) : Int) = topOf P + 1 := by
  obtain ⟨_, h2, h3⟩ := foldl_mx (listOf P) 0
  obtain ⟨h4, h5⟩ := topTo_spec P 64
  have e : mxL (listOf P) = (listOf P).foldl (fun m s => max m (pc s + 1)) 0 := rfl
  rw [← e] at h2 h3
  unfold topOf
  rcases h5 with h5 | ⟨s, hs, hp, h5⟩
  · rcases h3 with h3 | ⟨t, ht, h3⟩
    · omega
    · obtain ⟨h6, h7⟩ := mem_listOf.1 ht
      have := h4 t h6 h7
      omega
  · have h8 := h2 s (mem_listOf.2 ⟨hs, hp⟩)
    rcases h3 with h3 | ⟨t, ht, h3⟩
    · omega
    · obtain ⟨h6, h7⟩ := mem_listOf.1 ht
      have := h4 t h6 h7
      omega
theorem mxL_le {l : List Nat} (h : ∀ s ∈ l, s < 64) : mxL l ≤ 7 := by
  rcases (foldl_mx l 0).2.2 with h3 | ⟨t, ht, h3⟩
  · have e : mxL l = l.foldl (fun m s => max m (pc s + 1)) 0 := rfl
    omega
  · have e : mxL l = l.foldl (fun m s => max m (pc s + 1)) 0 := rfl
    have := pc_le6 t (h t ht)
    omega
theorem sized_none {l : List Nat} {m : Nat} (h : ∀ s ∈ l, pc s < m) : sized (m : Int) l = [] := by
  unfold sized
  rw [List.filter_eq_nil_iff]
  intro s hs
  have := h s hs
  simp
  omega
theorem cntM_more {l : List Nat} {m : Nat} (h : ∀ s ∈ l, pc s < m) : cntM l (m + 1) = cntM l m ++ [0] := by
  unfold cntM
  rw [List.range_succ, List.map_append, List.map_singleton, sized_none h]
  rfl
theorem cntM_set {l : List Nat} {m s : Nat} (h : pc s < m) : (cntM l m).set (pc s) (((sized (pc s : Int) l).length : Int) + 1) = cntM (l ++ [s]) m := by
  apply List.ext_getElem?
  intro j
  by_cases hj : j < m
  · rw [cntM_get _ hj]
    by_cases e : j = pc s
    · subst e
      rw [List.getElem?_set_self (by rw [cntM_len]; exact h), sized_yes rfl]
      simp
    · rw [List.getElem?_set_ne (fun h => e h.symm), cntM_get _ hj, sized_no (by omega)]
  · rw [List.getElem?_eq_none (by rw [List.length_set, cntM_len]; omega), List.getElem?_eq_none (by rw [cntM_len]; omega)]
/-- The counts of a family. -/
def countsOf (P : Nat → Bool) : List Int := (List.range (topOf P + 1).toNat).map fun j => ((layer P j).length : Int)
theorem countsOf_eq (P : Nat → Bool) : cntM (listOf P) (mxL (listOf P)) = countsOf P := by
  have h := mxL_top P
  unfold cntM countsOf
  rw [show (topOf P + 1).toNat = mxL (listOf P) by omega]
  apply List.map_congr_left
  intro j _
  rw [sized_listOf]
theorem countsOf_len (P : Nat → Bool) : (countsOf P).length = (topOf P + 1).toNat := by simp [countsOf]
theorem countsOf_get (P : Nat → Bool) {j : Nat} (h : j < (topOf P + 1).toNat) : (countsOf P)[j]? = some ((layer P j).length : Int) := by simp [countsOf, h]
def cntTo (P : Nat → Bool) (k : Nat) : List Int := (List.range k).map fun j => ((layer P j).length : Int)
theorem cntTo_snoc (P : Nat → Bool) (k : Nat) : cntTo P (k + 1) = cntTo P k ++ [((layer P k).length : Int)] := by simp [cntTo, List.range_succ]
theorem cntTo_len (P : Nat → Bool) (k : Nat) : (cntTo P k).length = k := by simp [cntTo]

/-! ### the signed sum -/
def sgnP (s : Nat) : Int := 2 * ((pc s % 2 : Nat) : Int) - 1
def eulL (l : List Nat) : Int := (l.map sgnP).sum
theorem eulL_snoc (l : List Nat) (s : Nat) : eulL (l ++ [s]) = eulL l + sgnP s := by simp [eulL]
theorem sgnP_bd (s : Nat) : -1 ≤ sgnP s ∧ sgnP s ≤ 1 := by
  unfold sgnP
  omega
theorem eulL_bd (l : List Nat) : -(l.length : Int) ≤ eulL l ∧ eulL l ≤ (l.length : Int) := by
  induction l with
  | nil => simp [eulL]
  | cons a l ih =>
    have := sgnP_bd a
    simp only [eulL, List.map_cons, List.sum_cons, List.length_cons] at *
    omega
/-- The counts' signed sum, of the first k. -/
def eulTo (f : Nat → Int) : Nat → Int
  | 0 => 0
  | k + 1 => if k % 2 = 1 then eulTo f k + f k else eulTo f k - f k
theorem eulL_same {l : List Nat} {k : Nat} (h : ∀ s ∈ l, pc s = k) : eulL l = if k % 2 = 1 then (l.length : Int) else -(l.length : Int) := by
  induction l with
  | nil => simp [eulL]
  | cons a l ih =>
    have h1 := ih (fun s hs => h s (by simp [hs]))
    have h2 : sgnP a = 2 * ((k % 2 : Nat) : Int) - 1 := by unfold sgnP; rw [h a (by simp)]
    simp only [eulL, List.map_cons, List.sum_cons, List.length_cons] at *
    rw [h1, h2]
    split <;> omega
theorem eulL_append (l r : List Nat) : eulL (l ++ r) = eulL l + eulL r := by simp [eulL]
theorem eulL_lows (P : Nat → Bool) : ∀ k, eulL (lows P k) = eulTo (fun j => ((layer P j).length : Int)) k
  | 0 => rfl
  | k + 1 => by
    rw [lows_succ, eulL_append, eulL_lows P k, eulL_same (k := k) (fun s hs => (mem_layer.1 hs).2.2)]
    show _ = (if k % 2 = 1 then eulTo (fun j => ((layer P j).length : Int)) k + ((layer P k).length : Int) else eulTo (fun j => ((layer P j).length : Int)) k - ((layer P k).length : Int))
    by_cases h : k % 2 = 1
    · rw [if_pos h, if_pos h]
    · rw [if_neg h, if_neg h]
      omega
theorem eulTo_more {f : Nat → Int} {m : Nat} (h : ∀ j, m ≤ j → f j = 0) : ∀ d, eulTo f (m + d) = eulTo f m
  | 0 => rfl
  | d + 1 => by
    show (if (m + d) % 2 = 1 then eulTo f (m + d) + f (m + d) else eulTo f (m + d) - f (m + d)) = _
    rw [eulTo_more h d, h (m + d) (by omega)]
    split <;> omega
theorem eul_eq (P : Nat → Bool) (hb : -1 ≤ topOf P ∧ topOf P ≤ 6) : eulL (listOf P) = eulTo (fun j => ((layer P j).length : Int)) (topOf P + 1).toNat := by
  rw [← lows_all, eulL_lows]
  obtain ⟨d, hd⟩ : ∃ d, 7 = (topOf P + 1).toNat + d := ⟨7 - (topOf P + 1).toNat, by omega⟩
  rw [hd]
  apply eulTo_more
  intro j hj
  rw [layer_above (by omega)]
  rfl
theorem eulTo_bd (P : Nat → Bool) : ∀ k : Nat, -(64 * (k : Int)) ≤ eulTo (fun j => ((layer P j).length : Int)) k ∧ eulTo (fun j => ((layer P j).length : Int)) k ≤ 64 * (k : Int)
  | 0 => by simp [eulTo]
  | k + 1 => by
    have h1 := eulTo_bd P k
    have h2 := layer_len P k
    show _ ≤ (if k % 2 = 1 then eulTo (fun j => ((layer P j).length : Int)) k + ((layer P k).length : Int) else eulTo (fun j => ((layer P j).length : Int)) k - ((layer P k).length : Int)) ∧ (if k % 2 = 1 then eulTo (fun j => ((layer P j).length : Int)) k + ((layer P k).length : Int) else eulTo (fun j => ((layer P j).length : Int)) k - ((layer P k).length : Int)) ≤ _
    split <;> omega
def eulerOf (n : Int) (xs : List Int) : Int := if isCx n xs then eulTo (fun j => ((layer (faceP xs) j).length : Int)) (topOf (faceP xs) + 1).toNat else 0
def faceCounts (n : Int) (xs : List Int) : List Int := if isCx n xs then countsOf (faceP xs) else []
def facesOfSize (n : Int) (xs : List Int) (k : Int) : List Nat := if isCx n xs then (if 0 ≤ k then layer (faceP xs) k.toNat else []) else []
end
end Go.Proofs.Ytmkacjpjcfffmaa
