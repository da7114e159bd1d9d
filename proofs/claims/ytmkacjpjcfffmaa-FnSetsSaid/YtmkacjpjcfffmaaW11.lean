/- Walks: what is read off the facets of a complex, more: IsSimplex, ConePoints, DegreeOf, IsPure. Printed by gen/w11.py. -/
import Derived.Test.YtmkacjpjcfffmaaW11a
namespace Go.Proofs.Ytmkacjpjcfffmaa
open Go.RowKit

theorem isSimplexI (n : Int) (v : Value) (xs : List Int) (w : World) (h : IntsAt w w.heap.size v xs) (hl : xs.length ≤ 1073741824) :
    Calls Try.prog 50 #[.agg #[.int .i64 n, v]] w fun e w' => RetB w (isCx n xs && (xs.length == 1)) e w' := by
  obtain ⟨A, c, rfl⟩ := reads_shape h
  obtain ⟨w1, hW1, at1, b1, z1⟩ := boxC w (.int .i64 n) (.slice A xs.length c) 42
  have r1 := now_ h b1
  have At1 := hide at1
  obtain ⟨e1_0, e1_1⟩ := at1
  have B1 := hide b1
  have R1 := hide r1
  clear h b1 r1
  cases hcx : isCx n xs
  · have Hcx := hide hcx
    clear hcx
    go_enter Try.func50, Try.ntmps50
    go_wp2_with fail
    clear hW1
    refine (isComplexI n _ xs w1 R1.out hl).mono ?_
    rw [Hcx.out]
    rintro e w2 ⟨rfl, b2⟩
    have B2 := hide (nxt B1.out b2)
    obtain ⟨e2_0, e2_1⟩ := At1.out.to b2
    clear e1_0 e1_1
    go_wp2
    go_ret
    exact ⟨rfl, B2.out⟩
  · have Hcx := hide hcx
    clear hcx
    by_cases h1 : xs.length = 1
    · have H1 := hide h1
      have hd : ((xs.length : Int) == 1) = true := by simp; omega
      clear h1
      go_enter Try.func50, Try.ntmps50
      go_wp2_with fail
      clear hW1
      refine (isComplexI n _ xs w1 R1.out hl).mono ?_
      rw [Hcx.out]
      rintro e w2 ⟨rfl, b2⟩
      have B2 := hide (nxt B1.out b2)
      obtain ⟨e2_0, e2_1⟩ := At1.out.to b2
      clear e1_0 e1_1
      go_wp2
      go_ret
      have h1 := H1.out
      exact ⟨ret_bool (by simp [h1]), B2.out⟩
    · have H1 := hide h1
      have hd : ((xs.length : Int) == 1) = false := by simp; omega
      clear h1
      go_enter Try.func50, Try.ntmps50
      go_wp2_with fail
      clear hW1
      refine (isComplexI n _ xs w1 R1.out hl).mono ?_
      rw [Hcx.out]
      rintro e w2 ⟨rfl, b2⟩
      have B2 := hide (nxt B1.out b2)
      obtain ⟨e2_0, e2_1⟩ := At1.out.to b2
      clear e1_0 e1_1
      go_wp2
      go_ret
      have h1 := H1.out
      exact ⟨ret_bool (by simp [h1]), B2.out⟩
theorem isSimplexS (n : Int) (v : Value) (xs : List Int) (w : World) (h : IntsAt w w.heap.size v xs) (hl : xs.length ≤ 1073741824) :
    Calls Try.prog 51 #[.agg #[.int .i64 n, v]] w fun e w' => RetB w (isCx n xs && (xs.length == 1)) e w' := by
  obtain ⟨A, c, rfl⟩ := reads_shape h
  obtain ⟨w1, hW1, at1, b1, z1⟩ := boxC w (.int .i64 n) (.slice A xs.length c) 42
  have r1 := now_ h b1
  have At1 := hide at1
  obtain ⟨e1_0, e1_1⟩ := at1
  have B1 := hide b1
  have R1 := hide r1
  clear h b1 r1
  cases hcx : isCx n xs
  · have Hcx := hide hcx
    clear hcx
    go_enter Try.func51, Try.ntmps51
    go_wp2_with fail
    clear hW1
    refine (isComplexS n _ xs w1 R1.out hl).mono ?_
    rw [Hcx.out]
    rintro e w2 ⟨rfl, b2⟩
    have B2 := hide (nxt B1.out b2)
    obtain ⟨e2_0, e2_1⟩ := At1.out.to b2
    clear e1_0 e1_1
    go_wp2
    go_ret
    exact ⟨rfl, B2.out⟩
  · have Hcx := hide hcx
    clear hcx
    by_cases h1 : xs.length = 1
    · have H1 := hide h1
      have hd : ((xs.length : Int) == 1) = true := by simp; omega
      clear h1
      go_enter Try.func51, Try.ntmps51
      go_wp2_with fail
      clear hW1
      refine (isComplexS n _ xs w1 R1.out hl).mono ?_
      rw [Hcx.out]
      rintro e w2 ⟨rfl, b2⟩
      have B2 := hide (nxt B1.out b2)
      obtain ⟨e2_0, e2_1⟩ := At1.out.to b2
      clear e1_0 e1_1
      go_wp2
      go_ret
      have h1 := H1.out
      exact ⟨ret_bool (by simp [h1]), B2.out⟩
    · have H1 := hide h1
      have hd : ((xs.length : Int) == 1) = false := by simp; omega
      clear h1
      go_enter Try.func51, Try.ntmps51
      go_wp2_with fail
      clear hW1
      refine (isComplexS n _ xs w1 R1.out hl).mono ?_
      rw [Hcx.out]
      rintro e w2 ⟨rfl, b2⟩
      have B2 := hide (nxt B1.out b2)
      obtain ⟨e2_0, e2_1⟩ := At1.out.to b2
      clear e1_0 e1_1
      go_wp2
      go_ret
      have h1 := H1.out
      exact ⟨ret_bool (by simp [h1]), B2.out⟩

/-! ### ConePoints -/
def andAll (m : Nat) (xs : List Int) : Nat := xs.foldl (fun a x => a &&& x.toNat) m
theorem andAll_snoc (m : Nat) (xs : List Int) (x : Int) : andAll m (xs ++ [x]) = andAll m xs &&& x.toNat := by simp [andAll]
def coneOf (n : Int) (xs : List Int) : Int := if isCx n xs then (match xs with | [] => 0 | x :: _ => (andAll x.toNat xs : Int)) else 0
theorem coneOf_yes {n : Int} {xs : List Int} (h : isCx n xs = true) {m : Nat} (h0 : xs[0]? = some (m : Int)) : coneOf n xs = (andAll m xs : Int) := by
  cases xs with
  | nil => simp at h0
  | cons y ys =>
    simp at h0
    subst h0
    simp [coneOf, h]
theorem coneOf_nil {n : Int} {xs : List Int} (h : xs.length ≤ 0) : coneOf n xs = 0 := by
  obtain rfl : xs = [] := List.eq_nil_of_length_eq_zero (by omega)
  unfold coneOf
  split <;> rfl
theorem andAll_one {m : Nat} {xs : List Int} (h0 : xs[0]? = some (m : Int)) : andAll m (xs.take 1) = m := by
  rw [take_snoc _ 0 _ h0]
  simp [andAll]

/-! ### DegreeOf -/
def degTo (s : Nat) (xs : List Int) : Nat := xs.countP (fun x => sub s x.toNat)
theorem degTo_snoc (s : Nat) (xs : List Int) (x : Int) : degTo s (xs ++ [x]) = degTo s xs + if sub s x.toNat then 1 else 0 := by
  unfold degTo
  rw [List.countP_append]
  simp [List.countP_cons]
theorem degTo_le (s : Nat) (xs : List Int) : degTo s xs ≤ xs.length := List.countP_le_length
def degOf (n s : Int) (xs : List Int) : Int := if isCx n xs && decide (0 ≤ s ∧ s < 64) then (degTo s.toNat xs : Int) else -1
theorem degOf_no1 {n s : Int} {xs : List Int} (h : isCx n xs = false) : degOf n s xs = -1 := by simp [degOf, h]
theorem degOf_no2 {n s : Int} {xs : List Int} (h : ¬ (0 ≤ s ∧ s < 64)) : degOf n s xs = -1 := by
  unfold degOf
  rw [decide_eq_false h]
  simp
theorem degOf_yes {n : Int} {s : Nat} {xs : List Int} (h : isCx n xs = true) (hs : s < 64) : degOf n (s : Int) xs = (degTo s xs : Int) := by
  unfold degOf
  rw [h, decide_eq_true (by omega : (0 : Int) ≤ (s : Int) ∧ (s : Int) < 64)]
  simp
theorem isSetB6 {s : Int} : isSetB 6 s = decide (0 ≤ s ∧ s < 64) := by
  unfold isSetB
  simp
def andBitY (s t : Nat) : Bool := (bits BinOp.and IntKind.i64 (t : Int) (s : Int) == (s : Int)) == sub s t
theorem andBitY_all : ((List.range 64).all fun s => (List.range 64).all fun t => andBitY s t) = true := by decide +kernel
theorem and_bitY {s t : Nat} (hs : s < 64) (ht : t < 64) : (bits BinOp.and IntKind.i64 (t : Int) (s : Int) == (s : Int)) = sub s t := by
  have h1 := List.all_eq_true.1 (List.all_eq_true.1 andBitY_all s (List.mem_range.2 hs)) t (List.mem_range.2 ht)
  unfold andBitY at h1
  simpa using h1
theorem l1BitS (b : Bool) (w : World) : Calls Try.prog 121 #[.bool b] w fun e w' => e = .returned (.int .i64 (if b then 1 else 0)) ∧ w = w' := by
  cases b
  · go_enter Try.func121, Try.ntmps121
    go_wp2
    go_ret
    exact ⟨rfl, rfl⟩
  · go_enter Try.func121, Try.ntmps121
    go_wp2
    go_ret
    exact ⟨rfl, rfl⟩

theorem degreeOfI (n : Int) (v : Value) (xs : List Int) (t : Int) (w : World) (h : IntsAt w w.heap.size v xs) (hl : xs.length ≤ 1073741824) :
    Calls Try.prog 52 #[.agg #[.int .i64 n, v], .int .i64 t] w fun e w' => RetN w (degOf n t xs) e w' := by
  obtain ⟨A, c, rfl⟩ := reads_shape h
  obtain ⟨w1, hW1, at1, b1, z1⟩ := boxC w (.int .i64 n) (.slice A xs.length c) 42
  have r1 := now_ h b1
  have At1 := hide at1
  obtain ⟨e1_0, e1_1⟩ := at1
  have B1 := hide b1
  have R1 := hide r1
  clear h b1 r1
  cases hcx : isCx n xs
  · have Hcx := hide hcx
    clear hcx
    go_enter Try.func52, Try.ntmps52
    go_wp2_with fail
    clear hW1
    refine (isComplexI n _ xs w1 R1.out hl).mono ?_
    rw [Hcx.out]
    rintro e w2 ⟨rfl, b2⟩
    have B2 := hide (nxt B1.out b2)
    obtain ⟨e2_0, e2_1⟩ := At1.out.to b2
    clear e1_0 e1_1
    go_wp2
    go_ret
    exact ⟨ret_int (degOf_no1 Hcx.out).symm, B2.out⟩
  · have Hcx := hide hcx
    clear hcx
    by_cases hs : 0 ≤ t ∧ t < 64
    · have Hset : Hid (isSetB 6 t = true) := by show isSetB 6 t = true; rw [isSetB6]; exact decide_eq_true hs
      obtain ⟨s, rfl⟩ := Int.eq_ofNat_of_zero_le hs.1
      have hs64 : s < 64 := by omega
      go_enter Try.func52, Try.ntmps52
      go_wp2_with fail
      clear hW1
      refine (isComplexI n _ xs w1 R1.out hl).mono ?_
      rw [Hcx.out]
      rintro e w2 ⟨rfl, b2⟩
      have B2 := hide (nxt B1.out b2)
      obtain ⟨e2_0, e2_1⟩ := At1.out.to b2
      clear e1_0 e1_1
      have He := hide (cxElems (now_ R1.out b2) Hcx.out)
      clear b2
      go_wp2_with (go_at_call 86; refine (isSetI _ _ _).mono ?_; rw [Hset.out]; rintro e wx ⟨rfl, rfl⟩)
      go_loop [5, 7, 19] (fun a _ i => ∃ k : Nat, k ≤ xs.length ∧ i = .int .i64 k ∧ degTo s (xs.take k) ≤ k ∧ a = .int .i64 (degTo s (xs.take k) : Int)) (fun _ _ i => xs.length - (intOf i).toNat)
      case atStart => exact ⟨0, by omega, rfl, by simp [degTo], rfl⟩
      case round =>
        obtain ⟨k, hk, rfl, hacc, rfl⟩ := hrel
        by_cases hlt : k < xs.length
        · obtain ⟨b', o', x, ⟨c', hv⟩, hx, hx64, hcell⟩ := He.out k hlt
          cases hv
          have Ht := hide (take_snoc _ _ _ hx)
          have hnb := not_bitX hs64 hx64
          clear hx
          cases hsub : sub s x
          · have Hs2 := hide hsub
            rw [hsub] at hnb
            clear hsub
            go_wp2
            go_round
            case rel => exact ⟨k + 1, by omega, by go_num, by rw [Ht.out, degTo_snoc]; simp [Hs2.out]; omega, by rw [Ht.out, degTo_snoc]; simp [Hs2.out]⟩
            case measure => simp [intOf]; omega
          · have Hs2 := hide hsub
            rw [hsub] at hnb
            clear hsub
            go_wp2
            go_round
            case rel => exact ⟨k + 1, by omega, by go_num, by rw [Ht.out, degTo_snoc]; simp [Hs2.out]; omega, by rw [Ht.out, degTo_snoc]; simp [Hs2.out]⟩
            case measure => simp [intOf]; omega
        · have hk2 : xs.length ≤ k := by omega
          have Ht := hide (take_all xs k hk2)
          go_wp2
          go_ret
          exact ⟨ret_int (by rw [degOf_yes Hcx.out hs64, Ht.out]), B2.out⟩
    · have Hset : Hid (isSetB 6 t = false) := by show isSetB 6 t = false; rw [isSetB6]; exact decide_eq_false hs
      have Hs := hide hs
      clear hs
      go_enter Try.func52, Try.ntmps52
      go_wp2_with fail
      clear hW1
      refine (isComplexI n _ xs w1 R1.out hl).mono ?_
      rw [Hcx.out]
      rintro e w2 ⟨rfl, b2⟩
      have B2 := hide (nxt B1.out b2)
      obtain ⟨e2_0, e2_1⟩ := At1.out.to b2
      clear e1_0 e1_1
      go_wp2_with (go_at_call 86; refine (isSetI _ _ _).mono ?_; rw [Hset.out]; rintro e wx ⟨rfl, rfl⟩)
      go_ret
      exact ⟨ret_int (degOf_no2 Hs.out).symm, B2.out⟩

theorem degreeOfS (n : Int) (v : Value) (xs : List Int) (t : Int) (w : World) (h : IntsAt w w.heap.size v xs) (hl : xs.length ≤ 1073741824) :
    Calls Try.prog 53 #[.agg #[.int .i64 n, v], .int .i64 t] w fun e w' => RetN w (degOf n t xs) e w' := by
  obtain ⟨A, c, rfl⟩ := reads_shape h
  obtain ⟨w1, hW1, at1, b1, z1⟩ := boxC w (.int .i64 n) (.slice A xs.length c) 42
  have r1 := now_ h b1
  have At1 := hide at1
  obtain ⟨e1_0, e1_1⟩ := at1
  have B1 := hide b1
  have R1 := hide r1
  clear h b1 r1
  cases hcx : isCx n xs
  · have Hcx := hide hcx
    clear hcx
    go_enter Try.func53, Try.ntmps53
    go_wp2_with fail
    clear hW1
    refine (isComplexS n _ xs w1 R1.out hl).mono ?_
    rw [Hcx.out]
    rintro e w2 ⟨rfl, b2⟩
    have B2 := hide (nxt B1.out b2)
    obtain ⟨e2_0, e2_1⟩ := At1.out.to b2
    clear e1_0 e1_1
    go_wp2
    go_ret
    exact ⟨ret_int (degOf_no1 Hcx.out).symm, B2.out⟩
  · have Hcx := hide hcx
    clear hcx
    by_cases hs : 0 ≤ t ∧ t < 64
    · have Hset : Hid (inB t 0 63 = true) := by show inB t 0 63 = true; exact inB_mk (by omega)
      obtain ⟨s, rfl⟩ := Int.eq_ofNat_of_zero_le hs.1
      have hs64 : s < 64 := by omega
      go_enter Try.func53, Try.ntmps53
      go_wp2_with fail
      clear hW1
      refine (isComplexS n _ xs w1 R1.out hl).mono ?_
      rw [Hcx.out]
      rintro e w2 ⟨rfl, b2⟩
      have B2 := hide (nxt B1.out b2)
      obtain ⟨e2_0, e2_1⟩ := At1.out.to b2
      clear e1_0 e1_1
      have He := hide (cxElems (now_ R1.out b2) Hcx.out)
      clear b2
      go_wp2_with (go_at_call 120; refine (l1InS _ _ _ _).mono ?_; rw [Hset.out]; rintro e wx ⟨rfl, rfl⟩)
      go_loop [5, 6] (fun a i => ∃ k : Nat, k ≤ xs.length ∧ i = .int .i64 k ∧ degTo s (xs.take k) ≤ k ∧ a = .int .i64 (degTo s (xs.take k) : Int)) (fun _ i => xs.length - (intOf i).toNat)
      case atStart => exact ⟨0, by omega, rfl, by simp [degTo], rfl⟩
      case round =>
        obtain ⟨k, hk, rfl, hacc, rfl⟩ := hrel
        by_cases hlt : k < xs.length
        · obtain ⟨b', o', x, ⟨c', hv⟩, hx, hx64, hcell⟩ := He.out k hlt
          cases hv
          have Ht := hide (take_snoc _ _ _ hx)
          have hnb := and_bitY hs64 hx64
          clear hx
          cases hsub : sub s x
          · have Hs2 := hide hsub
            rw [hsub] at hnb
            clear hsub
            go_wp2_with (go_at_call 121; refine (l1BitS _ _).mono ?_; rintro e wx ⟨rfl, rfl⟩)
            go_round
            case rel => exact ⟨k + 1, by omega, by go_num, by rw [Ht.out, degTo_snoc]; simp [Hs2.out]; omega, by rw [Ht.out, degTo_snoc]; simp [Hs2.out]⟩
            case measure => simp [intOf]; omega
          · have Hs2 := hide hsub
            rw [hsub] at hnb
            clear hsub
            go_wp2_with (go_at_call 121; refine (l1BitS _ _).mono ?_; rintro e wx ⟨rfl, rfl⟩)
            go_round
            case rel => exact ⟨k + 1, by omega, by go_num, by rw [Ht.out, degTo_snoc]; simp [Hs2.out]; omega, by rw [Ht.out, degTo_snoc]; simp [Hs2.out]⟩
            case measure => simp [intOf]; omega
        · have hk2 : xs.length ≤ k := by omega
          have Ht := hide (take_all xs k hk2)
          go_wp2
          go_ret
          exact ⟨ret_int (by rw [degOf_yes Hcx.out hs64, Ht.out]), B2.out⟩
    · have Hset : Hid (inB t 0 63 = false) := by show inB t 0 63 = false; exact inB_no (by omega)
      have Hs := hide hs
      clear hs
      go_enter Try.func53, Try.ntmps53
      go_wp2_with fail
      clear hW1
      refine (isComplexS n _ xs w1 R1.out hl).mono ?_
      rw [Hcx.out]
      rintro e w2 ⟨rfl, b2⟩
      have B2 := hide (nxt B1.out b2)
      obtain ⟨e2_0, e2_1⟩ := At1.out.to b2
      clear e1_0 e1_1
      go_wp2_with (go_at_call 120; refine (l1InS _ _ _ _).mono ?_; rw [Hset.out]; rintro e wx ⟨rfl, rfl⟩)
      go_ret
      exact ⟨ret_int (degOf_no2 Hs.out).symm, B2.out⟩

end Go.Proofs.Ytmkacjpjcfffmaa
