/- Walks: the laws' helpers on lists of ints. -/
import Derived.Test.YtmkacjpjcfffmaaW1
namespace Go.Proofs.Ytmkacjpjcfffmaa
open Go.RowKit

theorem eqIntS_any (v1 v2 : Value) (xs ys : List Int) (w : World) (h1 : IntsAt w w.heap.size v1 xs) (h2 : IntsAt w w.heap.size v2 ys) (hl1 : xs.length ≤ 1073741824) (_hl2 : ys.length ≤ 1073741824) :
    Calls Try.prog 28 #[v1, v2] w fun e w' => RetB w (decide (xs = ys)) e w' := by
  obtain ⟨A1, c1, rfl, hc1, he1⟩ := form_ h1
  obtain ⟨A2, c2, rfl, hc2, he2⟩ := form_ h2
  clear h1 h2
  by_cases hl : xs.length = ys.length
  · have hlen := hide hl
    have hbe : ((xs.length : Int) != (ys.length : Int)) = false := by rw [hl]; simp
    have h12 : xs.length ≤ ys.length := by omega
    have h21 : ys.length ≤ xs.length := by omega
    clear hl
    go_enter Try.func28, Try.ntmps28
    go_wp2
    go_loopw [5] (fun i wr => ∃ (k n : Nat), k ≤ xs.length ∧ i = .int .i64 k ∧ xs.take k = ys.take k ∧ wr = w.drewN n) (fun i _ => xs.length - (intOf i).toNat)
    case atStart => exact ⟨0, 0, by omega, rfl, by simp, rfl⟩
    case round =>
      obtain ⟨k, n, hk, rfl, ht, rfl⟩ := hrel
      have Ht := hide ht
      clear ht
      by_cases hlt : k < xs.length
      · have hlt2 : k < ys.length := by omega
        obtain ⟨b1, o1, x, rfl, hb1, hx, hcx⟩ := he1 k hlt
        obtain ⟨b2, o2, y, rfl, hb2, hy, hcy⟩ := he2 k hlt2
        have Hx := hide hx
        have Hy := hide hy
        clear hx hy he1 he2
        by_cases hxy : x = y
        · have hne : (x != y) = false := by simp [hxy]
          have Hxy := hide hxy
          clear hxy
          go_wp2
          go_quiet (fail)
          go_wp2
          go_roundw
          case rel => exact ⟨k + 1, _, by omega, by go_num, by rw [take_snoc _ _ _ Hx.out, take_snoc _ _ _ Hy.out, Ht.out, Hxy.out], rfl⟩
          case measure => simp [intOf]; omega
        · have hne : (x != y) = true := by simp [hxy]
          have Hxy := hide hxy
          clear hxy
          go_wp2
          go_quiet (fail)
          go_wp2
          go_ret
          refine ⟨ret_bool ?_, below_drewN (below_drewN (Below.refl _ _) _) _⟩
          symm
          apply decide_eq_false
          intro h
          have h1 := Hx.out
          have h2 := Hy.out
          rw [h, h2] at h1
          exact Hxy.out (Option.some.inj h1).symm
      · clear he1 he2
        go_wp2
        go_ret
        refine ⟨ret_bool ?_, below_drewN (Below.refl _ _) _⟩
        symm
        apply decide_eq_true
        have := Ht.out
        rwa [take_all _ _ (by omega), take_all _ _ (by omega)] at this
  · have hlen := hide hl
    have hbe : ((xs.length : Int) != (ys.length : Int)) = true := by simp; omega
    clear hl he1 he2
    go_enter Try.func28, Try.ntmps28
    go_wp2
    go_ret
    refine ⟨ret_bool ?_, Below.refl _ _⟩
    symm
    apply decide_eq_false
    intro h
    exact hlen.out (by rw [h])

/-- k, k + 1, .., n of them. -/
def marks (k : Int) (n : Nat) : List Int := (List.range n).map (fun (i : Nat) => k + (i : Int))
theorem marks_len (k : Int) (n : Nat) : (marks k n).length = n := by simp [marks]
theorem marks_succ (k : Int) (n : Nat) : marks k (n + 1) = marks k n ++ [k + (n : Int)] := by simp [marks, List.range_succ]
theorem marks_get (k : Int) (n i : Nat) (h : i < n) : (marks k n)[i]? = some (k + (i : Int)) := by simp [marks, h]
theorem marked_set (k : Int) (xs : List Int) (i : Nat) (h : i < xs.length) : (marks k i ++ xs.drop i).set i (k + (i : Int)) = marks k (i + 1) ++ xs.drop (i + 1) := by
  rw [List.set_append_right _ _ (by rw [marks_len]; omega), marks_len, Nat.sub_self, List.drop_eq_getElem_cons h, List.set_cons_zero, marks_succ]
  simp
theorem marked_len (k : Int) (xs : List Int) (i : Nat) (h : i ≤ xs.length) : (marks k i ++ xs.drop i).length = xs.length := by
  simp [marks_len]; omega

theorem markIntS_any {B : Nat} (v : Value) (xs : List Int) (k : Int) (w : World) (h : OwnV 3 w B v (ints xs)) (hk0 : 0 ≤ k) (hk1 : k ≤ 1099511627776) (hl : xs.length ≤ 1073741824) :
    Calls Try.prog 110 #[v, .int .i64 k] w fun e w' => e = .returned (.int .i64 (k + xs.length)) ∧ OwnV 3 w' B v (ints (marks k xs.length)) ∧ w.grownBy w' v.ownBlock := by
  rcases own_form h with ⟨rfl, hx⟩ | ⟨g, cap, hv, hg, hgl, hcap⟩
  · have hx0 : xs = [] := by simpa [ints] using hx
    subst hx0
    have H := hide h
    clear h
    go_enter Try.func110, Try.ntmps110
    go_wp2
    refine wp_loop_rounds 1 ?_
    rw [rounds_succ]
    go_wp2
    go_ret
    exact ⟨by simp, by simpa [marks] using H.out, grown_refl _ _⟩
  · rw [ints_length] at hv hcap
    subst hv
    go_enter Try.func110, Try.ntmps110
    go_wp2
    go_loopw [1, 5] (fun m i wr => ∃ j : Nat, j ≤ xs.length ∧ i = .int .i64 j ∧ m = .int .i64 (k + j) ∧ OwnV 3 wr B (.slice (some ⟨g, 0, none⟩) xs.length cap) (ints (marks k j ++ xs.drop j)) ∧ w.grownBy wr (some g)) (fun _ i _ => xs.length - (intOf i).toNat)
    case atStart => exact ⟨0, by omega, rfl, by simp, by simpa [marks] using h, grown_refl _ _⟩
    case round =>
      obtain ⟨j, hj, rfl, rfl, hown, hgr⟩ := hrel
      by_cases hlt : j < xs.length
      · have hml := marked_len k xs j hj
        have hms := marked_set k xs j hlt
        have hvv : Value.slice (some ⟨g, 0, none⟩) xs.length cap = .slice (some ⟨g, 0, none⟩) (ints (marks k j ++ xs.drop j)).length cap := by rw [ints_length, hml]
        obtain ⟨u, hu⟩ : ∃ u, (ints (marks k j ++ xs.drop j))[j]? = some u := ⟨_, List.getElem?_eq_getElem (by rw [ints_length, hml]; omega)⟩
        obtain ⟨hc, hf⟩ := own_cell hown hvv hu
        have hset := own_set hown hvv j (.int .i64 (k + j))
        have hgs := grown_setCell hgr j (.int .i64 (k + j))
        have es : (ints (marks k j ++ xs.drop j)).set j (.int .i64 (k + j)) = ints (marks k (j + 1) ++ xs.drop (j + 1)) := by rw [← hms]; simp [ints, List.map_set]
        rw [es] at hset
        have Hs := hide hset
        have Hg := hide hgs
        clear hset hgs es hms hml hvv hu hown hgr h
        go_wp2
        go_roundw
        case rel => exact ⟨j + 1, by omega, by go_num, by go_num, Hs.out, Hg.out⟩
        case measure => simp [intOf]; omega
      · have hj2 : j = xs.length := by omega
        have Ho := hide hown
        have Hg := hide hgr
        clear hown hgr h
        go_wp2
        go_ret
        subst hj2
        refine ⟨rfl, ?_, Hg.out⟩
        have := Ho.out
        rw [List.drop_length, List.append_nil] at this
        exact this

theorem heldIntS_yes (v : Value) (n : Nat) (k : Int) (w : World) (h : IntsAt w w.heap.size v (marks k n)) (hk0 : 0 ≤ k) (hk1 : k ≤ 1099511627776) (hl : n ≤ 1073741824) :
    Calls Try.prog 111 #[v, .int .i64 k] w fun e w' => RetN w (k + n) e w' := by
  obtain ⟨A, c, rfl, hc, he⟩ := form_ h
  clear h
  rw [marks_len] at hc he ⊢
  go_enter Try.func111, Try.ntmps111
  go_wp2
  go_loopw [1, 5] (fun m i wr => ∃ (j q : Nat), j ≤ n ∧ i = .int .i64 j ∧ m = .int .i64 (k + j) ∧ wr = w.drewN q) (fun _ i _ => n - (intOf i).toNat)
  case atStart => exact ⟨0, 0, by omega, rfl, by simp, rfl⟩
  case round =>
    obtain ⟨j, q, hj, rfl, rfl, rfl⟩ := hrel
    by_cases hlt : j < n
    · obtain ⟨b, o, x, rfl, hb, hx, hcx⟩ := he j hlt
      rw [marks_get _ _ _ hlt] at hx
      obtain rfl := Option.some.inj hx
      have hne : (k + (j : Int) != k + (j : Int)) = false := by simp
      clear hx he
      go_wp2
      go_roundw
      case rel => exact ⟨j + 1, _, by omega, by go_num, by go_num, rfl⟩
      case measure => simp [intOf]; omega
    · obtain rfl : j = n := by omega
      clear he
      go_wp2
      go_ret
      exact ⟨rfl, below_drewN (Below.refl _ _) _⟩
end Go.Proofs.Ytmkacjpjcfffmaa
