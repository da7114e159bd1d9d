/- Walks: what is read off the facets of a complex: IsSimplex, UsedPoints, ConePoints, DegreeOf, IsPure. -/
import Derived.Test.YtmkacjpjcfffmaaW10
import Derived.Test.YtmkacjpjcfffmaaBox
namespace Go.Proofs.Ytmkacjpjcfffmaa
open Go.RowKit

/-- The facets of a complex, at hand: cells and bounds. -/
theorem cxElems {n : Int} {xs : List Int} {w : World} {B : Nat} {v : Value} (h : IntsAt w B v xs) (hcx : isCx n xs = true) : ∀ k, k < xs.length → ∃ (b o s : Nat), (∃ c, v = .slice (some ⟨b, o, none⟩) xs.length c) ∧ xs[k]? = some (s : Int) ∧ s < 64 ∧ w.cell? ⟨b, o + k, none⟩ = some (.int .i64 (s : Int)) := by
  intro k hk
  obtain ⟨A, c, rfl, _, he⟩ := form_ h
  obtain ⟨b, o, x, rfl, _, hx, hc⟩ := he k hk
  obtain ⟨h0, h1⟩ := isCx_sets hcx x (List.mem_of_getElem? hx)
  obtain ⟨s, rfl⟩ := Int.eq_ofNat_of_zero_le h0
  exact ⟨b, o, s, ⟨_, rfl⟩, hx, by omega, hc⟩

/-! ### UsedPoints -/
def orAll (xs : List Int) : Nat := xs.foldl (fun a x => a ||| x.toNat) 0
theorem orAll_snoc (xs : List Int) (x : Int) : orAll (xs ++ [x]) = orAll xs ||| x.toNat := by simp [orAll]
def usedOf (n : Int) (xs : List Int) : Int := if isCx n xs then (orAll xs : Int) else 0

theorem usedPointsI (n : Int) (v : Value) (xs : List Int) (w : World) (h : IntsAt w w.heap.size v xs) (hl : xs.length ≤ 1073741824) :
    Calls Try.prog 48 #[.agg #[.int .i64 n, v]] w fun e w' => RetN w (usedOf n xs) e w' := by
  obtain ⟨A, c, rfl⟩ := reads_shape h
  obtain ⟨w1, hW1, at1, b1, z1⟩ := boxC w (.int .i64 n) (.slice A xs.length c) 42
  have r1 := now_ h b1
  have At1 := hide at1
  obtain ⟨e1_0, e1_1⟩ := at1
  have B1 := hide b1
  have R1 := hide r1
  clear h b1 r1
  cases hcx : isCx n xs
  · go_enter Try.func48, Try.ntmps48
    go_wp2_with fail
    clear hW1
    refine (isComplexI n _ xs w1 R1.out hl).mono ?_
    rw [hcx]
    rintro e w2 ⟨rfl, b2⟩
    have B2 := hide (nxt B1.out b2)
    go_wp2
    go_ret
    exact ⟨ret_int (by simp [usedOf, hcx]), B2.out⟩
  · go_enter Try.func48, Try.ntmps48
    go_wp2_with fail
    clear hW1
    refine (isComplexI n _ xs w1 R1.out hl).mono ?_
    rw [hcx]
    rintro e w2 ⟨rfl, b2⟩
    have B2 := hide (nxt B1.out b2)
    have He := hide (cxElems (now_ R1.out b2) hcx)
    have Hcx := hide hcx
    obtain ⟨e2_0, e2_1⟩ := At1.out.to b2
    clear e1_0 e1_1 hcx b2
    go_wp2
    go_loop [3, 5, 12] (fun a _ i => ∃ k : Nat, k ≤ xs.length ∧ i = .int .i64 k ∧ orAll (xs.take k) < 64 ∧ a = .int .i64 (orAll (xs.take k) : Int)) (fun _ _ i => xs.length - (intOf i).toNat)
    case atStart => exact ⟨0, by omega, rfl, by simp [orAll], rfl⟩
    case round =>
      obtain ⟨k, hk, rfl, hacc, rfl⟩ := hrel
      by_cases hlt : k < xs.length
      · obtain ⟨b, o, s, ⟨c', hv⟩, hx, hs, hcell⟩ := He.out k hlt
        cases hv
        have ho := i64_or (orAll (xs.take k)) s (by omega) (by omega)
        have Ht := hide (take_snoc _ _ _ hx)
        have Hlt : Hid (orAll (xs.take k) ||| s < 64) := Nat.or_lt_two_pow (n := 6) (by omega) (by omega)
        clear hx
        go_wp2
        go_round
        case rel => exact ⟨k + 1, by omega, by go_num, by rw [Ht.out, orAll_snoc]; exact Hlt.out, by rw [Ht.out, orAll_snoc]; rfl⟩
        case measure => simp [intOf]; omega
      · have hk2 : xs.length ≤ k := by omega
        have Ht := hide (take_all xs k hk2)
        go_wp2
        go_ret
        exact ⟨ret_int (by rw [Ht.out]; simp [usedOf, Hcx.out]), B2.out⟩

theorem usedPointsS (n : Int) (v : Value) (xs : List Int) (w : World) (h : IntsAt w w.heap.size v xs) (hl : xs.length ≤ 1073741824) :
    Calls Try.prog 49 #[.agg #[.int .i64 n, v]] w fun e w' => RetN w (usedOf n xs) e w' := by
  obtain ⟨A, c, rfl⟩ := reads_shape h
  obtain ⟨w1, hW1, at1, b1, z1⟩ := boxC w (.int .i64 n) (.slice A xs.length c) 42
  have r1 := now_ h b1
  have At1 := hide at1
  obtain ⟨e1_0, e1_1⟩ := at1
  have B1 := hide b1
  have R1 := hide r1
  clear h b1 r1
  cases hcx : isCx n xs
  · have Hcx := hide hcx
    by_cases h0 : 0 < xs.length
    · go_enter Try.func49, Try.ntmps49
      go_wp2_with fail
      clear hW1
      refine wp_loop_rounds 1 ?_
      rw [rounds_succ]
      go_wp2_with fail
      refine (isComplexS n _ xs w1 R1.out hl).mono ?_
      rw [hcx]
      rintro e w2 ⟨rfl, b2⟩
      have B2 := hide (nxt B1.out b2)
      clear hcx
      go_wp2
      go_ret
      exact ⟨ret_int (by simp [usedOf, Hcx.out]), B2.out⟩
    · have hge : xs.length ≤ 0 := by omega
      clear hcx
      go_enter Try.func49, Try.ntmps49
      go_wp2_with fail
      clear hW1
      refine wp_loop_rounds 1 ?_
      rw [rounds_succ]
      go_wp2
      go_ret
      exact ⟨ret_int (by simp [usedOf, Hcx.out]), B1.out⟩
  · have Hcx := hide hcx
    have He := hide (cxElems R1.out hcx)
    clear hcx
    go_enter Try.func49, Try.ntmps49
    go_wp2_with fail
    clear hW1 e1_0 e1_1
    go_loopw [3, 4] (fun a i wr => ∃ k : Nat, k ≤ xs.length ∧ i = .int .i64 k ∧ orAll (xs.take k) < 64 ∧ a = .int .i64 (orAll (xs.take k) : Int) ∧ Hid (Below w1.heap.size w1 wr)) (fun _ i _ => xs.length - (intOf i).toNat)
    case atStart => exact ⟨0, by omega, rfl, by simp [orAll], rfl, Below.refl _ _⟩
    case round =>
      obtain ⟨k, hk, rfl, hacc, rfl, hb⟩ := hrel
      obtain ⟨e2_0, e2_1⟩ := At1.out.to hb.out
      by_cases hlt : k < xs.length
      · obtain ⟨b, o, s, ⟨c', hv⟩, hx, hs, hcell⟩ := He.out k hlt
        cases hv
        have ho := i64_or (orAll (xs.take k)) s (by omega) (by omega)
        have Ht := hide (take_snoc _ _ _ hx)
        have Hlt : Hid (orAll (xs.take k) ||| s < 64) := Nat.or_lt_two_pow (n := 6) (by omega) (by omega)
        clear hx
        go_wp2_with fail
        refine (isComplexS n _ xs wr (now_ R1.out hb.out) hl).mono ?_
        rw [Hcx.out]
        rintro e w3 ⟨rfl, b3⟩
        have hb3 := nxt hb.out b3
        have Hb3 := hide hb3
        obtain ⟨e3_0, e3_1⟩ := At1.out.to hb3
        have hcell3 := (hb3.cell (World.block_lt_of_cell? _ _ hcell)).trans hcell
        clear hcell e2_0 e2_1 hb3 b3
        go_wp2
        go_roundw
        case rel => exact ⟨k + 1, by omega, by go_num, by rw [Ht.out, orAll_snoc]; exact Hlt.out, by rw [Ht.out, orAll_snoc]; rfl, Hb3⟩
        case measure => simp [intOf]; omega
      · have hk2 : xs.length ≤ k := by omega
        have Ht := hide (take_all xs k hk2)
        go_wp2
        go_ret
        exact ⟨ret_int (by rw [Ht.out]; simp [usedOf, Hcx.out]), B1.out.trans (hb.out.mono (by omega))⟩
end Go.Proofs.Ytmkacjpjcfffmaa
