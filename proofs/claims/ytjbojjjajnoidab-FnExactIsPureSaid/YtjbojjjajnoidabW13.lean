/- Walks: IsPure. -/
import Derived.Test.YtjbojjjajnoidabW12
namespace Go.Proofs.Ytjbojjjajnoidab
open Go.RowKit

theorem sizeOf_at (s : Nat) (hs : s < 64) (w : World) : Calls Try.prog 55 #[.int .i64 (s : Int)] w fun e w' => e = .returned (.int .i64 (pc s : Int)) ∧ w = w' := by
  have h := sizeOfI (s : Int) w
  rwa [sizeOf_yes hs] at h

theorem isPureI (n : Int) (v : Value) (xs : List Int) (w : World) (h : IntsAt w w.heap.size v xs) (hl : xs.length ≤ 1073741824) :
    Calls Try.prog 27 #[.agg #[.int .i64 n, v]] w fun e w' => RetB w (pureOf n xs) e w' := by
  obtain ⟨A, c, rfl⟩ := reads_shape h
  obtain ⟨w1, hW1, at1, b1, z1⟩ := boxC w (.int .i64 n) (.slice A xs.length c) 27
  have r1 := now_ h b1
  have At1 := hide at1
  obtain ⟨e1_0, e1_1⟩ := at1
  have B1 := hide b1
  have R1 := hide r1
  clear h b1 r1
  cases hcx : isCx n xs
  · have Hcx := hide hcx
    clear hcx
    go_enter Try.func27, Try.ntmps27
    go_wp2_with fail
    clear hW1
    refine (isComplexI n _ xs w1 R1.out hl).mono ?_
    rw [Hcx.out]
    rintro e w2 ⟨rfl, b2⟩
    have B2 := hide (nxt B1.out b2)
    go_wp2
    go_ret
    exact ⟨ret_bool (pureOf_no Hcx.out).symm, B2.out⟩
  · have Hcx := hide hcx
    clear hcx
    go_enter Try.func27, Try.ntmps27
    go_wp2_with fail
    clear hW1
    refine (isComplexI n _ xs w1 R1.out hl).mono ?_
    rw [Hcx.out]
    rintro e w2 ⟨rfl, b2⟩
    have B2 := hide (nxt B1.out b2)
    obtain ⟨e2_0, e2_1⟩ := At1.out.to b2
    have He := hide (cxElems (now_ R1.out b2) Hcx.out)
    clear e1_0 e1_1 b2
    go_wp2
    go_loopw [4, 11] (fun _ i wr => ∃ k q : Nat, k ≤ xs.length ∧ i = .int .i64 k ∧ wr = w2.drewN q ∧ Hid (∀ (j : Nat) x, j < k → xs[j]? = some x → pc x.toNat = pc (xs.getD 0 0).toNat)) (fun _ i _ => xs.length - (intOf i).toNat)
    case atStart => exact ⟨0, 0, by omega, rfl, rfl, fun j x hj => by omega⟩
    case round =>
      obtain ⟨k, q, hk, rfl, rfl, hok⟩ := hrel
      by_cases hlt : k < xs.length
      · obtain ⟨b, o, s, ⟨c', hv⟩, hx, hs, hcell⟩ := He.out k hlt
        cases hv
        obtain ⟨b0, o0, s0, ⟨c0, hv⟩, hx0, hs0, hcell0⟩ := He.out 0 (by omega)
        cases hv
        simp only [Nat.add_zero] at hcell0
        have Hx := hide hx
        have Hg0 := hide (getD_of hx0)
        have hl0 : decide ((0 : Int) < (xs.length : Int)) = true := by simp; omega
        have hl1 : (0 : Int) < (xs.length : Int) := by omega
        clear hx hx0
        by_cases hpc : pc s = pc s0
        · have hne : ((pc s : Int) != (pc s0 : Int)) = false := by rw [bne_eq_false_iff_eq]; omega
          have Hok2 : Hid (∀ (j : Nat) x, j < k + 1 → xs[j]? = some x → pc x.toNat = pc (xs.getD 0 0).toNat) := by
            intro j x hj hjx
            rcases Nat.lt_or_ge j k with h | h
            · exact hok.out j x h hjx
            · obtain rfl : j = k := by omega
              rw [Hx.out] at hjx
              obtain rfl := Option.some.inj hjx
              rw [Hg0.out]
              exact hpc
          go_wp2
          go_quiet ((go_at_call 55; exact quiet_add_left (sizeOf_at _ (by assumption) _)))
          go_wp2
          go_roundw
          case rel => exact ⟨k + 1, _, by omega, by go_num, rfl, Hok2⟩
          case measure => simp [intOf]; omega
        · have hne : ((pc s : Int) != (pc s0 : Int)) = true := by rw [bne_iff_ne]; omega
          have Hbad : Hid (pureOf n xs = false) := pureOf_bad Hx.out (by rw [Hg0.out]; simpa using hpc)
          go_wp2
          go_quiet ((go_at_call 55; exact quiet_add_left (sizeOf_at _ (by assumption) _)))
          go_wp2
          go_ret
          exact ⟨ret_bool Hbad.out.symm, below_drewN (below_drewN B2.out _) _⟩
      · have Hall : Hid (pureOf n xs = true) := (pureOf_all (n := n) (fun j x hj hx => hok.out j x (by omega) hx)).trans Hcx.out
        go_wp2
        go_ret
        exact ⟨ret_bool Hall.out.symm, below_drewN B2.out _⟩

theorem isPureS (n : Int) (v : Value) (xs : List Int) (w : World) (h : IntsAt w w.heap.size v xs) (hl : xs.length ≤ 1073741824) (hbx : ∀ x ∈ xs, x ≤ 9223372036854775807) :
    Calls Try.prog 26 #[.agg #[.int .i64 n, v]] w fun e w' => RetB w (pureOf n xs) e w' := by
  obtain ⟨A, c, rfl⟩ := reads_shape h
  obtain ⟨w1, hW1, at1, b1, z1⟩ := boxC w (.int .i64 n) (.slice A xs.length c) 27
  have r1 := now_ h b1
  obtain ⟨e1_0, e1_1⟩ := at1
  have B1 := hide b1
  have R1 := hide r1
  obtain ⟨A', c', hsl, _, he⟩ := form_ r1
  cases hsl
  have He := hide he
  have Hbx := hide hbx
  clear h b1 r1 hbx he
  go_enter Try.func26, Try.ntmps26
  go_wp2_with fail
  clear hW1
  go_loopw [3] (fun i wr => ∃ k q : Nat, 1 ≤ k ∧ (k ≤ xs.length ∨ k = 1) ∧ i = .int .i64 k ∧ wr = w1.drewN q ∧ Hid (∀ (j : Nat) x, j < k → xs[j]? = some x → pc x.toNat = pc (xs.getD 0 0).toNat)) (fun i _ => xs.length - (intOf i).toNat)
  case atStart =>
    refine ⟨1, 0, by omega, .inr rfl, rfl, rfl, fun j x hj hx => ?_⟩
    obtain rfl : j = 0 := by omega
    rw [getD_of hx]
  case round =>
    obtain ⟨k, q, hk1, hk, rfl, rfl, hok⟩ := hrel
    by_cases hlt : k < xs.length
    · obtain ⟨b, o, x, rfl, hb, hx, hcell⟩ := He.out k hlt
      obtain ⟨b0, o0, x0, hA, hb0, hx0, hcell0⟩ := He.out 0 (by omega)
      cases hA
      simp only [Nat.add_zero] at hcell0
      have hxb := Hbx.out x (List.mem_of_getElem? hx)
      have hx0b := Hbx.out x0 (List.mem_of_getElem? hx0)
      have Hx := hide hx
      have Hg0 := hide (getD_of hx0)
      have hl1 : (0 : Int) < (xs.length : Int) := by omega
      clear hx hx0 hb hb0
      by_cases hpc : pc x.toNat = pc x0.toNat
      · have hne : ((pc x.toNat : Int) != (pc x0.toNat : Int)) = false := by rw [bne_eq_false_iff_eq]; omega
        have Hok2 : Hid (∀ (j : Nat) x, j < k + 1 → xs[j]? = some x → pc x.toNat = pc (xs.getD 0 0).toNat) := by
          intro j y hj hjx
          rcases Nat.lt_or_ge j k with h | h
          · exact hok.out j y h hjx
          · obtain rfl : j = k := by omega
            rw [Hx.out] at hjx
            obtain rfl := Option.some.inj hjx
            rw [Hg0.out]
            exact hpc
        go_wp2
        go_quiet ((go_at_call 54; exact quiet_add_left (l2SizeS _ _ (by assumption))))
        go_wp2
        go_roundw
        case rel => exact ⟨k + 1, _, by omega, by omega, by go_num, rfl, Hok2⟩
        case measure => simp [intOf]; omega
      · have hne : ((pc x.toNat : Int) != (pc x0.toNat : Int)) = true := by rw [bne_iff_ne]; omega
        have Hbad : Hid (pureOf n xs = false) := pureOf_bad Hx.out (by rw [Hg0.out]; simpa using hpc)
        go_wp2
        go_quiet ((go_at_call 54; exact quiet_add_left (l2SizeS _ _ (by assumption))))
        go_wp2
        go_ret
        exact ⟨ret_bool Hbad.out.symm, below_drewN (below_drewN B1.out _) _⟩
    · have Hall : Hid (pureOf n xs = isCx n xs) := pureOf_all (n := n) (fun j x hj hx => hok.out j x (by omega) hx)
      go_wp2_with fail
      refine (isComplexS n _ xs (w1.drewN q) (ReadsV.drewN R1.out q) hl).mono ?_
      rintro e w2 ⟨rfl, b2⟩
      have Hb2 : Hid (Below w.heap.size w w2) := nxt (below_drewN B1.out _) b2
      clear b2
      go_wp2
      go_ret
      exact ⟨ret_bool Hall.out.symm, Hb2.out⟩
end Go.Proofs.Ytjbojjjajnoidab
