/- Walks: OrderSets, MaximalSets, MinimalSets, SubsetsOf in the reference. -/
import Derived.Test.YtmkacjpjcfffmaaW7
import Derived.Test.YtmkacjpjcfffmaaMathTop
namespace Go.Proofs.Ytmkacjpjcfffmaa
open Go.RowKit

theorem orderSetsS (v : Value) (xs : List Int) (w : World) (h : IntsAt w w.heap.size v xs) (hl : xs.length ≤ 1073741824) : Calls Try.prog 91 #[v] w fun e w' => RetI 3 w (zs (orderOf xs)) e w' := by
  cases ha : allSets xs
  · rw [orderOf_no ha]
    have Ha := hide ha
    clear ha
    go_enter Try.func91, Try.ntmps91
    go_wp2_with fail
    refine (l2FineS v xs w h hl).mono ?_
    rw [Ha.out]
    rintro e w' ⟨rfl, rfl⟩
    go_wp2
    go_ret
    exact ⟨_, rfl, own_empty _ _, below_alloc _ _⟩
  · rw [orderOf_yes ha]
    have Ha := hide ha
    clear ha
    go_enter Try.func91, Try.ntmps91
    go_wp2_with fail
    refine (l2FineS v xs w h hl).mono ?_
    rw [Ha.out]
    rintro e w' ⟨rfl, rfl⟩
    go_wp2_with fail
    refine (l2OrderS v xs w h hl Ha.out).mono ?_
    rintro e w1 ⟨u, rfl, hu, hb⟩
    go_wp2
    go_ret
    exact ⟨_, rfl, hu, hb⟩
theorem maximalSetsS (v : Value) (xs : List Int) (w : World) (h : IntsAt w w.heap.size v xs) (hl : xs.length ≤ 1073741824) : Calls Try.prog 88 #[v] w fun e w' => RetI 3 w (zs (maxSets xs)) e w' := by
  cases ha : allSets xs
  · rw [maxSets_no ha]
    have Ha := hide ha
    clear ha
    go_enter Try.func88, Try.ntmps88
    go_wp2_with fail
    refine (l2FineS v xs w h hl).mono ?_
    rw [Ha.out]
    rintro e w' ⟨rfl, rfl⟩
    go_wp2
    go_ret
    exact ⟨_, rfl, own_empty _ _, below_alloc _ _⟩
  · rw [maxSets_yes ha]
    have Ha := hide ha
    clear ha
    go_enter Try.func88, Try.ntmps88
    go_wp2_with fail
    refine (l2FineS v xs w h hl).mono ?_
    rw [Ha.out]
    rintro e w' ⟨rfl, rfl⟩
    go_wp2_with fail
    refine (l2ExtremeS true v xs w h hl Ha.out).mono ?_
    rintro e w1 ⟨u, rfl, hu, hb⟩
    go_wp2
    go_ret
    exact ⟨_, rfl, hu, hb⟩
theorem minimalSetsS (v : Value) (xs : List Int) (w : World) (h : IntsAt w w.heap.size v xs) (hl : xs.length ≤ 1073741824) : Calls Try.prog 89 #[v] w fun e w' => RetI 3 w (zs (minSets xs)) e w' := by
  cases ha : allSets xs
  · rw [minSets_no ha]
    have Ha := hide ha
    clear ha
    go_enter Try.func89, Try.ntmps89
    go_wp2_with fail
    refine (l2FineS v xs w h hl).mono ?_
    rw [Ha.out]
    rintro e w' ⟨rfl, rfl⟩
    go_wp2
    go_ret
    exact ⟨_, rfl, own_empty _ _, below_alloc _ _⟩
  · rw [minSets_yes ha]
    have Ha := hide ha
    clear ha
    go_enter Try.func89, Try.ntmps89
    go_wp2_with fail
    refine (l2FineS v xs w h hl).mono ?_
    rw [Ha.out]
    rintro e w' ⟨rfl, rfl⟩
    go_wp2_with fail
    refine (l2ExtremeS false v xs w h hl Ha.out).mono ?_
    rintro e w1 ⟨u, rfl, hu, hb⟩
    go_wp2
    go_ret
    exact ⟨_, rfl, hu, hb⟩
theorem subTo_all (m : Nat) : allSets (zs ((List.range 64).filter fun t => sub t m)) = true := by
  apply List.all_eq_true.2
  intro x hx
  simp only [zs, List.mem_map, List.mem_filter, List.mem_range] at hx
  obtain ⟨n, ⟨hn, _⟩, rfl⟩ := hx
  exact decide_eq_true ⟨by omega, by omega⟩
theorem subTo_in (m s : Nat) (hs : s < 64) : inList (zs ((List.range 64).filter fun t => sub t m)) s = sub s m := by
  unfold inList
  rw [Bool.eq_iff_iff]
  simp only [List.contains_eq_mem, decide_eq_true_eq, zs, List.mem_map, List.mem_filter, List.mem_range]
  constructor
  · rintro ⟨n, ⟨_, h⟩, e⟩
    have : n = s := by omega
    subst this
    exact h
  · intro h
    exact ⟨s, ⟨hs, h⟩, rfl⟩
def subTo (m k : Nat) : List Nat := (List.range k).filter fun t => sub t m
theorem subTo_yes {m k : Nat} (h : sub k m = true) : subTo m (k + 1) = subTo m k ++ [k] := by simp [subTo, List.range_succ, h]
theorem subTo_no {m k : Nat} (h : sub k m = false) : subTo m (k + 1) = subTo m k := by simp [subTo, List.range_succ, h]
theorem subTo_len (m k : Nat) : (subTo m k).length ≤ k := by
  have := List.length_filter_le (fun t => sub t m) (List.range k)
  simpa [subTo] using this
theorem listOf_nil : listOf (inList []) = [] := by decide +kernel

theorem subsetsOfS (s : Int) (w : World) : Calls Try.prog 98 #[.int .i64 s] w fun e w' => RetI 3 w (zs (subsetsOf s)) e w' := by
  by_cases hs : 0 ≤ s ∧ s < 64
  · have h1 : inB s 0 63 = true := inB_mk ⟨hs.1, by omega⟩
    obtain ⟨m, rfl⟩ := Int.eq_ofNat_of_zero_le hs.1
    have hm : m < 64 := by omega
    rw [subsetsOf_yes hm]
    have Hr := hide (show listOf (fun t => sub t m) = listOf (inList (zs (subTo m 64))) from listOf_congr (fun s hs => (subTo_in m s hs).symm))
    have Hall : Hid (allSets (zs (subTo m 64)) = true) := subTo_all m
    clear hs
    go_enter Try.func98, Try.ntmps98
    go_wp2
    go_loopw [3, 4] (fun v i wr => ∃ k : Nat, k ≤ 64 ∧ i = .int .i64 k ∧ OwnV 3 wr w.heap.size v (ints (zs (subTo m k))) ∧ Below w.heap.size w wr) (fun _ i _ => 64 - (intOf i).toNat)
    case atStart => exact ⟨0, by omega, rfl, own_empty _ _, below_alloc _ _⟩
    case round =>
      obtain ⟨k, hk, rfl, hown, hb⟩ := hrel
      have hml := subTo_len m k
      by_cases hlt : k < 64
      · have hab := (and_bit hlt hm).1
        cases hsub : sub k m
        · rw [hsub] at hab
          have Hn := hide (subTo_no hsub)
          clear hsub
          go_wp2_with (go_at_call 120; refine (l1InS _ _ _ _).mono ?_; rintro e w' ⟨rfl, rfl⟩)
          go_roundw
          case rel => exact ⟨k + 1, by omega, by go_num, by rw [Hn.out]; exact hown, hb⟩
          case measure => simp [intOf]; omega
        · rw [hsub] at hab
          have Hn := hide (subTo_yes hsub)
          have hoL : (zs (subTo m k)).length < 17179869184 := by simp; omega
          clear hsub
          go_wp2_with (first | (go_at_call 120; refine (l1InS _ _ _ _).mono ?_; rintro e w' ⟨rfl, rfl⟩) | (at_builtin; refine wpList_appI hown k Try.underlying36 infoI rfl _ _ rfl rfl rfl hoL hb.size ?_; intro v' w2 hown1 hb1 _))
          go_roundw
          case rel => exact ⟨k + 1, by omega, by go_num, by rw [Hn.out, zs_snoc]; exact hown1, hb.trans hb1⟩
          case measure => simp [intOf]; omega
      · obtain rfl : k = 64 := by omega
        have Hb := hide hb
        have Hown := hide hown
        clear hb hown
        go_wp2_with (first | (go_at_call 120; refine (l1InS _ _ _ _).mono ?_; rintro e w' ⟨rfl, rfl⟩) | fail)
        refine (l2OrderS _ _ _ (own_reads Hown.out) (by rw [List.length_map]; omega) Hall.out).mono ?_
        rintro e w1 ⟨u, rfl, hu, hb1⟩
        go_wp2
        go_ret
        exact ⟨_, rfl, by rw [Hr.out]; exact own_mono hu Hb.out.size, below_step Hb.out hb1 Hb.out.size⟩
  · have h1 : inB s 0 63 = false := inB_no (fun h => hs ⟨h.1, by omega⟩)
    rw [subsetsOf_no hs]
    clear hs
    have Hn := hide listOf_nil
    go_enter Try.func98, Try.ntmps98
    go_wp2
    refine wp_loop_rounds 1 ?_
    rw [rounds_succ]
    go_wp2_with (first | (go_at_call 120; refine (l1InS _ _ _ _).mono ?_; rintro e w' ⟨rfl, rfl⟩) | fail)
    refine (l2OrderS _ [] _ (own_reads (own_empty 3 w)) (by simp) rfl).mono ?_
    rintro e w1 ⟨u, rfl, hu, hb1⟩
    rw [Hn.out] at hu
    go_wp2
    go_ret
    exact ⟨_, rfl, own_mono hu (by (try simp only [World.size_alloc]); omega), nxt (below_alloc _ _) hb1⟩
end Go.Proofs.Ytmkacjpjcfffmaa
