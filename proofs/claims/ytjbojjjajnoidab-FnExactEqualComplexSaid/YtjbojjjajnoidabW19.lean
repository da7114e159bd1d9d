/- Walks: EqualComplex. -/
import Derived.Test.YtjbojjjajnoidabBox
namespace Go.Proofs.Ytjbojjjajnoidab
open Go.RowKit

theorem l2SameS (v1 v2 : Value) (xs ys : List Int) (w : World) (h1 : IntsAt w w.heap.size v1 xs) (h2 : IntsAt w w.heap.size v2 ys) (hl1 : xs.length ≤ 1073741824) (_hl2 : ys.length ≤ 1073741824) :
    Calls Try.prog 48 #[v1, v2] w fun e w' => RetB w (decide (xs = ys)) e w' := by
  obtain ⟨A1, c1, rfl, hc1, he1⟩ := form_ h1
  obtain ⟨A2, c2, rfl, hc2, he2⟩ := form_ h2
  clear h1 h2
  by_cases hl : xs.length = ys.length
  · have hlen := hide hl
    have hbe : ((xs.length : Int) != (ys.length : Int)) = false := by rw [hl]; simp
    have h12 : xs.length ≤ ys.length := by omega
    have h21 : ys.length ≤ xs.length := by omega
    clear hl
    go_enter Try.func48, Try.ntmps48
    go_wp2
    go_loopw [5] (fun i wr => ∃ (k n : Nat), k ≤ xs.length ∧ i = .int .i64 k ∧ xs.take k = ys.take k ∧ wr = w.drewN n) (fun i _ => xs.length - (intOf i).toNat)
    case atStart => exact ⟨0, 0, by omega, rfl, by simp, rfl⟩
    case round =>
      obtain ⟨k, n, hk, rfl, ht, rfl⟩ := hrel
      have Ht := hide ht
      clear ht
      by_cases hlt : k < xs.length
      · have hlt2 : k < ys.length := by omega
        obtain ⟨b1, o1, x, rfl, hb1, hx, hcx⟩ := he1 k hlt
        obtain ⟨b2, o2, y, rfl, hb2, hy, hcy⟩ := he2 k hlt2
        have Hx := hide hx
        have Hy := hide hy
        clear hx hy he1 he2
        by_cases hxy : x = y
        · have hne : (x != y) = false := by simp [hxy]
          have Hxy := hide hxy
          clear hxy
          go_wp2
          go_quiet (fail)
          go_wp2
          go_roundw
          case rel => exact ⟨k + 1, _, by omega, by go_num, by rw [take_snoc _ _ _ Hx.out, take_snoc _ _ _ Hy.out, Ht.out, Hxy.out], rfl⟩
          case measure => simp [intOf]; omega
        · have hne : (x != y) = true := by simp [hxy]
          have Hxy := hide hxy
          clear hxy
          go_wp2
          go_quiet (fail)
          go_wp2
          go_ret
          refine ⟨ret_bool ?_, below_drewN (below_drewN (Below.refl _ _) _) _⟩
          symm
          apply decide_eq_false
          intro h
          have h1 := Hx.out
          have h2 := Hy.out
          rw [h, h2] at h1
          exact Hxy.out (Option.some.inj h1).symm
      · clear he1 he2
        go_wp2
        go_ret
        refine ⟨ret_bool ?_, below_drewN (Below.refl _ _) _⟩
        symm
        apply decide_eq_true
        have := Ht.out
        rwa [take_all _ _ (by omega), take_all _ _ (by omega)] at this
  · have hlen := hide hl
    have hbe : ((xs.length : Int) != (ys.length : Int)) = true := by simp; omega
    clear hl he1 he2
    go_enter Try.func48, Try.ntmps48
    go_wp2
    go_ret
    refine ⟨ret_bool ?_, Below.refl _ _⟩
    symm
    apply decide_eq_false
    intro h
    exact hlen.out (by rw [h])

theorem slicesEqual_any (v1 v2 : Value) (xs ys : List Int) (w : World) (h1 : IntsAt w w.heap.size v1 xs) (h2 : IntsAt w w.heap.size v2 ys) (hl1 : xs.length ≤ 1073741824) (_hl2 : ys.length ≤ 1073741824) :
    Calls Try.prog 49 #[v1, v2] w fun e w' => RetB w (decide (xs = ys)) e w' := by
  obtain ⟨A1, c1, rfl, hc1, he1⟩ := form_ h1
  obtain ⟨A2, c2, rfl, hc2, he2⟩ := form_ h2
  clear h1 h2
  by_cases hl : xs.length = ys.length
  · have hlen := hide hl
    have hbe : ((xs.length : Int) != (ys.length : Int)) = false := by rw [hl]; simp
    have h12 : xs.length ≤ ys.length := by omega
    have h21 : ys.length ≤ xs.length := by omega
    clear hl
    go_enter Try.func49, Try.ntmps49
    go_wp2
    go_loopw [5, 13] (fun _ i wr => ∃ (k n : Nat), k ≤ xs.length ∧ i = .int .i64 k ∧ xs.take k = ys.take k ∧ wr = w.drewN n) (fun _ i _ => xs.length - (intOf i).toNat)
    case atStart => exact ⟨0, 0, by omega, rfl, by simp, rfl⟩
    case round =>
      obtain ⟨k, n, hk, rfl, ht, rfl⟩ := hrel
      have Ht := hide ht
      clear ht
      by_cases hlt : k < xs.length
      · have hlt2 : k < ys.length := by omega
        obtain ⟨b1, o1, x, rfl, hb1, hx, hcx⟩ := he1 k hlt
        obtain ⟨b2, o2, y, rfl, hb2, hy, hcy⟩ := he2 k hlt2
        have Hx := hide hx
        have Hy := hide hy
        clear hx hy he1 he2
        by_cases hxy : x = y
        · have hne : (x != y) = false := by simp [hxy]
          have Hxy := hide hxy
          clear hxy
          go_wp2
          go_quiet (fail)
          go_wp2
          go_roundw
          case rel => exact ⟨k + 1, _, by omega, by go_num, by rw [take_snoc _ _ _ Hx.out, take_snoc _ _ _ Hy.out, Ht.out, Hxy.out], rfl⟩
          case measure => simp [intOf]; omega
        · have hne : (x != y) = true := by simp [hxy]
          have Hxy := hide hxy
          clear hxy
          go_wp2
          go_quiet (fail)
          go_wp2
          go_ret
          refine ⟨ret_bool ?_, below_drewN (below_drewN (Below.refl _ _) _) _⟩
          symm
          apply decide_eq_false
          intro h
          have h1 := Hx.out
          have h2 := Hy.out
          rw [h, h2] at h1
          exact Hxy.out (Option.some.inj h1).symm
      · clear he1 he2
        go_wp2
        go_ret
        refine ⟨ret_bool ?_, below_drewN (Below.refl _ _) _⟩
        symm
        apply decide_eq_true
        have := Ht.out
        rwa [take_all _ _ (by omega), take_all _ _ (by omega)] at this
  · have hlen := hide hl
    have hbe : ((xs.length : Int) != (ys.length : Int)) = true := by simp; omega
    clear hl he1 he2
    go_enter Try.func49, Try.ntmps49
    go_wp2
    go_ret
    refine ⟨ret_bool ?_, Below.refl _ _⟩
    symm
    apply decide_eq_false
    intro h
    exact hlen.out (by rw [h])

theorem equalComplexI (n1 n2 : Int) (v1 v2 : Value) (xs ys : List Int) (w : World) (h1 : IntsAt w w.heap.size v1 xs) (h2 : IntsAt w w.heap.size v2 ys) (hl1 : xs.length ≤ 1073741824) (hl2 : ys.length ≤ 1073741824) :
    Calls Try.prog 18 #[.agg #[.int .i64 n1, v1], .agg #[.int .i64 n2, v2]] w fun e w' => RetB w (decide (n1 = n2) && decide (xs = ys)) e w' := by
  obtain ⟨A1, c1, rfl⟩ := reads_shape h1
  obtain ⟨A2, c2, rfl⟩ := reads_shape h2
  obtain ⟨w1, hW1, at1, b1, z1⟩ := boxC w (.int .i64 n1) (.slice A1 xs.length c1) 27
  obtain ⟨w2, hW2, at2, b2, z2⟩ := boxC w1 (.int .i64 n2) (.slice A2 ys.length c2) 27
  have b02 := nxt b1 b2
  have R1 := hide (now_ h1 b02)
  have R2 := hide (now_ h2 b02)
  have B2 := hide b02
  obtain ⟨e1_0, e1_1⟩ := at1.to b2
  obtain ⟨e2_0, e2_1⟩ := at2
  clear h1 h2 at1 b1 b2 b02 z1 z2
  by_cases hn : n1 = n2
  · subst hn
    have hne : (n1 == n1) = true := by simp
    go_enter Try.func18, Try.ntmps18
    go_wp2_with fail
    clear hW1 hW2
    refine (slicesEqual_any _ _ xs ys w2 R1.out R2.out hl1 hl2).mono ?_
    rintro e w3 ⟨rfl, b3⟩
    have B3 := hide (nxt B2.out b3)
    go_wp2
    go_ret
    exact ⟨ret_bool (by simp), B3.out⟩
  · have hne : (n1 == n2) = false := by simpa using hn
    have Hn := hide hn
    clear hn
    go_enter Try.func18, Try.ntmps18
    go_wp2
    go_ret
    exact ⟨ret_bool (by rw [decide_eq_false Hn.out]; rfl), B2.out⟩
theorem equalComplexS (n1 n2 : Int) (v1 v2 : Value) (xs ys : List Int) (w : World) (h1 : IntsAt w w.heap.size v1 xs) (h2 : IntsAt w w.heap.size v2 ys) (hl1 : xs.length ≤ 1073741824) (hl2 : ys.length ≤ 1073741824) :
    Calls Try.prog 16 #[.agg #[.int .i64 n1, v1], .agg #[.int .i64 n2, v2]] w fun e w' => RetB w (decide (n1 = n2) && decide (xs = ys)) e w' := by
  obtain ⟨A1, c1, rfl⟩ := reads_shape h1
  obtain ⟨A2, c2, rfl⟩ := reads_shape h2
  obtain ⟨w1, hW1, at1, b1, z1⟩ := boxC w (.int .i64 n1) (.slice A1 xs.length c1) 27
  obtain ⟨w2, hW2, at2, b2, z2⟩ := boxC w1 (.int .i64 n2) (.slice A2 ys.length c2) 27
  have b02 := nxt b1 b2
  have R1 := hide (now_ h1 b02)
  have R2 := hide (now_ h2 b02)
  have B2 := hide b02
  obtain ⟨e1_0, e1_1⟩ := at1.to b2
  obtain ⟨e2_0, e2_1⟩ := at2
  clear h1 h2 at1 b1 b2 b02 z1 z2
  by_cases hn : n1 = n2
  · subst hn
    have hne : (n1 == n1) = true := by simp
    go_enter Try.func16, Try.ntmps16
    go_wp2_with fail
    clear hW1 hW2
    refine (l2SameS _ _ xs ys w2 R1.out R2.out hl1 hl2).mono ?_
    rintro e w3 ⟨rfl, b3⟩
    have B3 := hide (nxt B2.out b3)
    go_wp2
    go_ret
    exact ⟨ret_bool (by simp), B3.out⟩
  · have hne : (n1 == n2) = false := by simpa using hn
    have Hn := hide hn
    clear hn
    go_enter Try.func16, Try.ntmps16
    go_wp2
    go_ret
    exact ⟨ret_bool (by rw [decide_eq_false Hn.out]; rfl), B2.out⟩
end Go.Proofs.Ytjbojjjajnoidab
