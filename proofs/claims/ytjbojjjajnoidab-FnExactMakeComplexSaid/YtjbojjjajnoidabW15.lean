/- Walks: MakeComplex. Printed by gen/w15.py. -/
import Derived.Test.YtjbojjjajnoidabW14
import Derived.Test.YtjbojjjajnoidabMathFace
import Derived.Test.YtjbojjjajnoidabBox
namespace Go.Proofs.Ytjbojjjajnoidab
open Go.RowKit

def okSets (n : Int) (xs : List Int) : Bool := decide (1 ≤ n ∧ n ≤ 6) && decide (xs.length ≤ 64) && xs.all (isSetB n)
theorem okSets_n {n : Int} {xs : List Int} (h : ¬ (1 ≤ n ∧ n ≤ 6)) : okSets n xs = false := by unfold okSets; rw [decide_eq_false h]; rfl
theorem okSets_len {n : Int} {xs : List Int} (h : ¬ (xs.length ≤ 64)) : okSets n xs = false := by unfold okSets; rw [decide_eq_false h]; simp
theorem okSets_bad {n : Int} {xs : List Int} {x : Int} (hx : x ∈ xs) (h : isSetB n x = false) : okSets n xs = false := by
  unfold okSets
  rw [List.all_eq_false.2 ⟨x, hx, by simpa using h⟩]
  simp
theorem okSets_mk {n : Int} {xs : List Int} (h : 1 ≤ n ∧ n ≤ 6) (hl : xs.length ≤ 64) (ha : ∀ x ∈ xs, isSetB n x = true) : okSets n xs = true := by
  unfold okSets
  rw [decide_eq_true h, decide_eq_true hl, List.all_eq_true.2 ha]
  rfl
theorem okSets_inv {n : Int} {xs : List Int} (h : okSets n xs = true) : (1 ≤ n ∧ n ≤ 6) ∧ xs.length ≤ 64 ∧ ∀ x ∈ xs, isSetB n x = true := by
  unfold okSets at h
  rw [Bool.and_eq_true, Bool.and_eq_true] at h
  exact ⟨of_decide_eq_true h.1.1, of_decide_eq_true h.1.2, List.all_eq_true.1 h.2⟩
theorem okSets_all {n : Int} {xs : List Int} (h : okSets n xs = true) : allSets xs = true :=
  List.all_eq_true.2 fun x hx => decide_eq_true (isSetB_64 ((okSets_inv h).2.2 x hx))
def mkN (n : Int) (xs : List Int) : Int := if okSets n xs then n else 0
def mkXs (n : Int) (xs : List Int) : List Int := if okSets n xs then zs (maxOf (inList xs)) else []
theorem zs_len15 (l : List Nat) : (zs l).length = l.length := List.length_map _
theorem mkXs_len (n : Int) (xs : List Int) : (mkXs n xs).length ≤ 448 := by
  unfold mkXs
  split
  · rw [zs_len15]; exact maxOf_len _
  · simp
theorem retCB_made {w w' : World} {n : Int} {xs : List Int} (h : okSets n xs = true) {v : Value} (ho : OwnV 3 w' w.heap.size v (ints (zs (maxOf (inList xs))))) (hb : Below w.heap.size w w') : RetCB 3 w (mkN n xs) (mkXs n xs) (okSets n xs) (.returned (.tuple #[.agg #[.int .i64 n, v], .bool true])) w' := by
  unfold mkN mkXs
  rw [if_pos h, if_pos h, h]
  exact ⟨_, rfl, ho, hb⟩
theorem retCB_made1 {w w' : World} {n : Int} {xs : List Int} (h : okSets n xs = true) {v : Value} (ho : OwnV 3 w' w.heap.size v (ints (zs (maxOf (inList xs))))) (hb : Below w.heap.size w w') : RetCB 3 w (mkN n xs) (mkXs n xs) true (.returned (.tuple #[.agg #[.int .i64 n, v], .bool true])) w' := by
  have := retCB_made h ho hb
  rwa [h] at this
theorem retCB_not {w w' : World} {n : Int} {xs : List Int} (h : okSets n xs = false) (hb : Below w.heap.size w w') : RetCB 3 w (mkN n xs) (mkXs n xs) (okSets n xs) (.returned (.tuple #[.agg #[.int .i64 0, .slice none 0 0], .bool false])) w' := by
  unfold mkN mkXs
  rw [if_neg (by rw [h]; simp), if_neg (by rw [h]; simp), h]
  exact ⟨_, rfl, own_nil _ _, hb⟩
theorem gt6 {n : Int} (h : n ≤ 6) : decide (n > 6) = false := decide_eq_false (by omega)

theorem areSetsOfI (n : Int) (v : Value) (xs : List Int) (w : World) (h : IntsAt w w.heap.size v xs) (hl : xs.length ≤ 1073741824) :
    Calls Try.prog 68 #[.int .i64 n, v] w fun e w' => e = .returned (.bool (okSets n xs)) ∧ w = w' := by
  obtain ⟨A, c, rfl, hcap, he⟩ := form_ h
  have He := hide he
  clear h he
  by_cases hn : 1 ≤ n ∧ n ≤ 6
  · have Hn := hide hn
    obtain ⟨hn1, hn2⟩ := hn
    by_cases hlen : xs.length ≤ 64
    · go_enter Try.func68, Try.ntmps68
      go_wp2
      go_loop [6, 20] (fun _ i => ∃ k : Nat, k ≤ xs.length ∧ i = .int .i64 k ∧ Hid (∀ (j : Nat) x, j < k → xs[j]? = some x → isSetB n x = true)) (fun _ i => xs.length - (intOf i).toNat)
      case atStart => exact ⟨0, by omega, rfl, fun j x hj => by omega⟩
      case round =>
        obtain ⟨k, hk, rfl, hok⟩ := hrel
        by_cases hlt : k < xs.length
        · obtain ⟨b, o, x, rfl, hb, hx, hcx⟩ := He.out k hlt
          have Hx := hide hx
          clear hx
          cases hset : isSetB n x
          · have H := hide (okSets_bad (List.mem_of_getElem? Hx.out) hset)
            have Hset := hide hset
            clear hset
            go_wp2_with (go_at_call 57; refine (isSetI _ _ _).mono ?_; rw [Hset.out]; rintro e w' ⟨rfl, rfl⟩)
            go_ret
            exact ⟨ret_bool H.out.symm, rfl⟩
          · have Hset := hide hset
            have Hok2 : Hid (∀ (j : Nat) x, j < k + 1 → xs[j]? = some x → isSetB n x = true) := by
              intro j y hj hy
              rcases Nat.lt_or_ge j k with h | h
              · exact hok.out j y h hy
              · obtain rfl : j = k := by omega
                rw [Hx.out] at hy
                obtain rfl := Option.some.inj hy
                exact Hset.out
            clear hset
            go_wp2_with (go_at_call 57; refine (isSetI _ _ _).mono ?_; rw [Hset.out]; rintro e w' ⟨rfl, rfl⟩)
            go_round
            case rel => exact ⟨k + 1, by omega, by go_num, Hok2⟩
            case measure => simp [intOf]; omega
        · have H : Hid (okSets n xs = true) := okSets_mk Hn.out hlen (fun x hx => by
            obtain ⟨j, hj, hje⟩ := List.mem_iff_getElem.1 hx
            exact hok.out j x (by omega) (List.getElem?_eq_some_iff.2 ⟨hj, hje⟩))
          go_wp2
          go_ret
          exact ⟨ret_bool H.out.symm, rfl⟩
    · have H := hide (okSets_len (n := n) hlen)
      have hlen2 : 64 < xs.length := by omega
      clear hlen
      go_enter Try.func68, Try.ntmps68
      go_wp2
      go_ret
      exact ⟨ret_bool H.out.symm, rfl⟩
  · have H := hide (okSets_n (xs := xs) hn)
    rcases Int.lt_or_le n 1 with h | h
    · clear hn
      go_enter Try.func68, Try.ntmps68
      go_wp2
      go_ret
      exact ⟨ret_bool H.out.symm, rfl⟩
    · have h2 : 6 < n := by omega
      clear hn
      go_enter Try.func68, Try.ntmps68
      go_wp2
      go_ret
      exact ⟨ret_bool H.out.symm, rfl⟩

theorem makeComplexI (n : Int) (v : Value) (xs : List Int) (w : World) (h : IntsAt w w.heap.size v xs) (hl : xs.length ≤ 1073741824) :
    Calls Try.prog 44 #[.int .i64 n, v] w fun e w' => RetCB 3 w (mkN n xs) (mkXs n xs) (okSets n xs) e w' := by
  have ha := hide (ReadsV.alloc h (.cells #[.int .i64 0, .slice none 0 0] 27))
  clear h
  cases hok : okSets n xs
  · have Hok := hide hok
    go_enter Try.func44, Try.ntmps44
    go_wp2_with fail
    refine (areSetsOfI n v xs _ ha.out hl).mono ?_
    rw [hok]
    rintro e w1 ⟨rfl, rfl⟩
    clear hok
    go_wp2
    refine bodyPost_ret (v := .tuple #[.agg #[.int .i64 0, .slice none 0 0], .bool false]) (by simp [results, Try.results44, go_sem]) rfl ?_
    have hr := retCB_not Hok.out (below_alloc w (.cells #[.int .i64 0, .slice none 0 0] 27))
    rwa [Hok.out] at hr
  · have Hok := hide hok
    have Hall := hide (okSets_all hok)
    go_enter Try.func44, Try.ntmps44
    go_wp2_with fail
    refine (areSetsOfI n v xs _ ha.out hl).mono ?_
    rw [hok]
    rintro e w1 ⟨rfl, rfl⟩
    clear hok
    go_wp2_with fail
    refine (familyOfI v xs _ ha.out hl).mono ?_
    rw [Hall.out, famRes_yes Hall.out]
    rintro e w1 ⟨rfl, rfl⟩
    go_wp2_with fail
    refine (complexOfI n (inList xs) _).mono ?_
    rintro e w1 ⟨v', rfl, hown, hb⟩
    obtain ⟨A', c', rfl⟩ := own_shape hown
    obtain ⟨ho, hfar⟩ := own_far (C := w.heap.size + 1) (D := w.heap.size) hown (by (try simp only [World.size_alloc]); omega) (by (try simp only [World.size_alloc]); omega)
    have Ho := hide ho
    have Hfar := hide hfar
    have Hb : Hid (Below w.heap.size w w1) := (below_alloc w _).trans (hb.mono (by (try simp only [World.size_alloc]); omega))
    obtain ⟨hc, hf⟩ := bcell hb
    have hz := hb.size
    simp only [World.size_alloc] at hz
    clear hown hb ho hfar
    go_wp2
    refine bodyPost_ret (v := .tuple #[.agg #[.int .i64 n, .slice A' (zs (maxOf (inList xs))).length c'], .bool true]) (by simp [results, Try.results44, go_sem, hc]) rfl ?_
    refine retCB_made1 Hok.out (own_setNe (own_setNe Ho.out (fun k hk => by have := Hfar.out k hk; omega) _ _) (fun k hk => by have := Hfar.out k hk; omega) _ _) ?_
    have hbw := Hb.out
    go_grown

theorem makeComplexS (n : Int) (v : Value) (xs : List Int) (w : World) (h : IntsAt w w.heap.size v xs) (hl : xs.length ≤ 1073741824) :
    Calls Try.prog 42 #[.int .i64 n, v] w fun e w' => RetCB 3 w (mkN n xs) (mkXs n xs) (okSets n xs) e w' := by
  obtain ⟨w1, hW1, at1, b1, z1⟩ := boxC w (.int .i64 0) (.slice none 0 0) 27
  have Ha := hide (now_ h b1)
  have Hat := hide at1
  have B1 := hide b1
  obtain ⟨A, c, rfl, hcap, he⟩ := form_ Ha.out
  have He := hide he
  clear h he at1 b1
  have Hfz : Hid (∀ o, w1.frozen? ⟨w.heap.size, o, none⟩ = false) := by
    intro o
    rw [← hW1]
    simp [go_sem]
  go_enter Try.func42, Try.ntmps42
  go_wp2_with fail
  clear hW1
  go_loop [6] (fun i => ∃ k : Nat, k ≤ xs.length ∧ i = .int .i64 k ∧ Hid (∀ (j : Nat) x, j < k → xs[j]? = some x → isSetB n x = true)) (fun i => xs.length - (intOf i).toNat)
  case atStart => exact ⟨0, by omega, rfl, fun j x hj => by omega⟩
  case round =>
    obtain ⟨k, hk, rfl, hok⟩ := hrel
    by_cases hlt : k < xs.length
    · obtain ⟨b, o, x, rfl, hb, hx, hcx⟩ := He.out k hlt
      have Hx := hide hx
      clear hx
      cases hset : isSetB n x
      · have H := hide (okSets_bad (List.mem_of_getElem? Hx.out) hset)
        have Hset := hide hset
        have hf0 := Hfz.out 0
        have hf1 := Hfz.out 1
        obtain ⟨e0, e1⟩ := Hat.out
        have hwb : w.heap.size < w1.heap.size := by omega
        clear hset
        go_wp2_with (go_at_call 50; refine (isSetS _ _ _).mono ?_; rw [Hset.out]; rintro e w' ⟨rfl, rfl⟩)
        refine bodyPost_ret (v := .tuple #[.agg #[.int .i64 0, .slice none 0 0], .bool false]) (by simp [results, Try.results42, go_sem, e0, e1]) rfl ?_
        refine retCB_not H.out ?_
        have hbw := B1.out
        go_grown
      · have Hset := hide hset
        have Hok2 : Hid (∀ (j : Nat) x, j < k + 1 → xs[j]? = some x → isSetB n x = true) := by
          intro j y hj hy
          rcases Nat.lt_or_ge j k with h | h
          · exact hok.out j y h hy
          · obtain rfl : j = k := by omega
            rw [Hx.out] at hy
            obtain rfl := Option.some.inj hy
            exact Hset.out
        clear hset
        go_wp2_with (go_at_call 50; refine (isSetS _ _ _).mono ?_; rw [Hset.out]; rintro e w' ⟨rfl, rfl⟩)
        go_round
        case rel => exact ⟨k + 1, by omega, by go_num, Hok2⟩
        case measure => simp [intOf]; omega
    · have Hall : Hid (∀ x ∈ xs, isSetB n x = true) := (fun x hx => by
        obtain ⟨j, hj, hje⟩ := List.mem_iff_getElem.1 hx
        exact hok.out j x (by omega) (List.getElem?_eq_some_iff.2 ⟨hj, hje⟩))
      clear hok
      have hf0 := Hfz.out 0
      have hf1 := Hfz.out 1
      obtain ⟨e0, e1⟩ := Hat.out
      have hwb : w.heap.size < w1.heap.size := by omega
      by_cases hn : 1 ≤ n ∧ n ≤ 6
      · have Hin : Hid (inB n 1 6 = true) := inB_mk hn
        by_cases hlen : xs.length ≤ 64
        · have Hok := hide (okSets_mk hn hlen Hall.out)
          have Hsets := hide (okSets_all Hok.out)
          clear hn
          go_wp2_with (go_at_call 52; refine (l1InS _ _ _ _).mono ?_; rw [Hin.out]; rintro e w' ⟨rfl, rfl⟩)
          refine (l3MakeS n _ xs _ Ha.out hl Hsets.out).mono ?_
          rintro e w2 ⟨v', rfl, hown, hb⟩
          obtain ⟨A', c', rfl⟩ := own_shape hown
          obtain ⟨ho, hfar⟩ := own_far (C := w.heap.size + 1) (D := w.heap.size) hown (by omega) (by omega)
          have Ho := hide ho
          have Hfar := hide hfar
          have Hb : Hid (Below w.heap.size w w2) := B1.out.trans (hb.mono (by omega))
          obtain ⟨hc, hf⟩ := bcell hb
          have hz := hb.size
          have e0' := (hc w.heap.size 0 hwb).trans e0
          have e1' := (hc w.heap.size 1 hwb).trans e1
          have f0' := (hf w.heap.size 0 hwb).trans hf0
          have f1' := (hf w.heap.size 1 hwb).trans hf1
          clear hown hb ho hfar hc hf e0 e1 hf0 hf1
          go_wp2
          refine bodyPost_ret (v := .tuple #[.agg #[.int .i64 n, .slice A' (zs (maxOf (inList xs))).length c'], .bool true]) (by simp [results, Try.results42, go_sem, e0', e1']) rfl ?_
          refine retCB_made Hok.out (own_setNe (own_setNe Ho.out (fun k hk => by have := Hfar.out k hk; omega) _ _) (fun k hk => by have := Hfar.out k hk; omega) _ _) ?_
          have hbw := Hb.out
          go_grown
        · have H := hide (okSets_len (n := n) hlen)
          have hlen2 : 64 < xs.length := by omega
          clear hn hlen
          go_wp2_with (go_at_call 52; refine (l1InS _ _ _ _).mono ?_; rw [Hin.out]; rintro e w' ⟨rfl, rfl⟩)
          refine bodyPost_ret (v := .tuple #[.agg #[.int .i64 0, .slice none 0 0], .bool false]) (by simp [results, Try.results42, go_sem, e0, e1]) rfl ?_
          refine retCB_not H.out ?_
          have hbw := B1.out
          go_grown
      · have Hin : Hid (inB n 1 6 = false) := inB_no hn
        have H := hide (okSets_n (xs := xs) hn)
        clear hn
        go_wp2_with (go_at_call 52; refine (l1InS _ _ _ _).mono ?_; rw [Hin.out]; rintro e w' ⟨rfl, rfl⟩)
        refine bodyPost_ret (v := .tuple #[.agg #[.int .i64 0, .slice none 0 0], .bool false]) (by simp [results, Try.results42, go_sem, e0, e1]) rfl ?_
        refine retCB_not H.out ?_
        have hbw := B1.out
        go_grown
end Go.Proofs.Ytjbojjjajnoidab
