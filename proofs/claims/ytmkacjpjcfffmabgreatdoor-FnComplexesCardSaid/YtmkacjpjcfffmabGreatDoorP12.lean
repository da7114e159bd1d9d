/- Texts of one kind, laid together (6 of them). -/
import Derived.ProofKit
import Derived.OpenShut
import Derived.ShutString
import Derived.ChangeOld
import Derived.Lib.SmallJoins
import Derived.SliceStrings
import Derived.Deep.Strs
import Derived.Test.YtmkacjpjcfffmabGreatDoorP1
import Derived.Test.YtmkacjpjcfffmabGreatDoorP2
import Derived.Test.YtmkacjpjcfffmabGreatDoorP4
import Derived.Test.YtmkacjpjcfffmabGreatDoorP5
import Derived.Test.YtmkacjpjcfffmabGreatDoorP6
import Derived.Test.YtmkacjpjcfffmabGreatDoorP11
namespace Go.Proofs.YtmkacjpjcfffmabGreatDoor
/- Walks: MakeComplex. Printed by gen/w15.py. -/
section
open Go.RowKit

def okSets (n : Int) (xs : List Int) : Bool := decide (1 ≤ n ∧ n ≤ 6) && decide (xs.length ≤ 64) && xs.all (isSetB n)
theorem okSets_n {n : Int} {xs : List Int} (h : ¬ (1 ≤ n ∧ n ≤ 6)) : okSets n xs = false := by unfold okSets; rw [decide_eq_false h]; rfl
theorem okSets_len {n : Int} {xs : List Int} (h : ¬ (xs.length ≤ 64)) : okSets n xs = false := by unfold okSets; rw [decide_eq_false h]; simp
theorem okSets_bad {n : Int} {xs : List Int} {x : Int} (hx : x ∈ xs) (h : isSetB n x = false) : okSets n xs = false := by
  unfold okSets
  rw [List.all_eq_false.2 ⟨x, hx, by simpa using h⟩]
  simp
theorem okSets_mk {n : Int} {xs : List Int} (h : 1 ≤ n ∧ n ≤ 6) (hl : xs.length ≤ 64) (ha : ∀ x ∈ xs, isSetB n x = true) : okSets n xs = true := by
  unfold okSets
  rw [decide_eq_true h, decide_eq_true hl, List.all_eq_true.2 ha]
  rfl
theorem okSets_inv {n : Int} {xs : List Int} (h : okSets n xs = true) : (1 ≤ n ∧ n ≤ 6) ∧ xs.length ≤ 64 ∧ ∀ x ∈ xs, isSetB n x = true := by
  unfold okSets at h
  rw [Bool.and_eq_true, Bool.and_eq_true] at h
  exact ⟨of_decide_eq_true h.1.1, of_decide_eq_true h.1.2, List.all_eq_true.1 h.2⟩
theorem okSets_all {n : Int} {xs : List Int} (h : okSets n xs = true) : allSets xs = true :=
  List.all_eq_true.2 fun x hx => decide_eq_true (isSetB_64 ((okSets_inv h).2.2 x hx))
def mkN (n : Int) (xs : List Int) : Int := if okSets n xs then n else 0
def mkXs (n : Int) (xs : List Int) : List Int := if okSets n xs then zs (maxOf (inList xs)) else []
theorem zs_len15 (l : List Nat) : (zs l).length = l.length := List.length_map _
theorem mkXs_len (n : Int) (xs : List Int) : (mkXs n xs).length ≤ 448 := by
  unfold mkXs
  split
  · rw [zs_len15]; exact maxOf_len _
  · simp
theorem retCB_made {w w' : World} {n : Int} {xs : List Int} (h : okSets n xs = true) {v : Value} (ho : OwnV 3 w' w.heap.size v (ints (zs (maxOf (inList xs))))) (hb : Below w.heap.size w w') : RetCB 3 w (mkN n xs) (mkXs n xs) (okSets n xs) (.returned (.tuple #[.agg #[.int .i64 n, v], .bool true])) w' := by
  unfold mkN mkXs
  rw [if_pos h, if_pos h, h]
  exact ⟨_, rfl, ho, hb⟩
theorem retCB_made1 {w w' : World} {n : Int} {xs : List Int} (h : okSets n xs = true) {v : Value} (ho : OwnV 3 w' w.heap.size v (ints (zs (maxOf (inList xs))))) (hb : Below w.heap.size w w') : RetCB 3 w (mkN n xs) (mkXs n xs) true (.returned (.tuple #[.agg #[.int .i64 n, v], .bool true])) w' := by
  have := retCB_made h ho hb
  rwa [h] at this
theorem retCB_not {w w' : World} {n : Int} {xs : List Int} (h : okSets n xs = false) (hb : Below w.heap.size w w') : RetCB 3 w (mkN n xs) (mkXs n xs) (okSets n xs) (.returned (.tuple #[.agg #[.int .i64 0, .slice none 0 0], .bool false])) w' := by
  unfold mkN mkXs
  rw [if_neg (by rw [h]; simp), if_neg (by rw [h]; simp), h]
  exact ⟨_, rfl, own_nil _ _, hb⟩
theorem gt6 {n : Int} (h : n ≤ 6) : decide (n > 6) = false := decide_eq_false (by omega)

theorem areSetsOfI (n : Int) (v : Value) (xs : List Int) (w : World) (h : IntsAt w w.heap.size v xs) (hl : xs.length ≤ 1073741824) :
    Calls Tryz.prog 43 #[.int .i64 n, v] w fun e w' => e = .returned (.bool (okSets n xs)) ∧ w = w' := by
  obtain ⟨A, c, rfl, hcap, he⟩ := form_ h
  have He := hide he
  clear h he
  by_cases hn : 1 ≤ n ∧ n ≤ 6
  · have Hn := hide hn
    obtain ⟨hn1, hn2⟩ := hn
    by_cases hlen : xs.length ≤ 64
    · go_enter Tryz.func43, Tryz.ntmps43
      go_wp2
      go_loop [6, 20] (fun _ i => ∃ k : Nat, k ≤ xs.length ∧ i = .int .i64 k ∧ Hid (∀ (j : Nat) x, j < k → xs[j]? = some x → isSetB n x = true)) (fun _ i => xs.length - (intOf i).toNat)
      case atStart => exact ⟨0, by omega, rfl, fun j x hj => by omega⟩
      case round =>
        obtain ⟨k, hk, rfl, hok⟩ := hrel
        by_cases hlt : k < xs.length
        · obtain ⟨b, o, x, rfl, hb, hx, hcx⟩ := He.out k hlt
          have Hx := hide hx
          clear hx
          cases hset : isSetB n x
          · have H := hide (okSets_bad (List.mem_of_getElem? Hx.out) hset)
            have Hset := hide hset
            clear hset
            go_wp2_with (go_at_call 54; refine (isSetI _ _ _).mono ?_; rw [Hset.out]; rintro e w' ⟨rfl, rfl⟩)
            go_ret
            exact ⟨ret_bool H.out.symm, rfl⟩
          · have Hset := hide hset
            have Hok2 : Hid (∀ (j : Nat) x, j < k + 1 → xs[j]? = some x → isSetB n x = true) := by
              intro j y hj hy
              rcases Nat.lt_or_ge j k with h | h
              · exact hok.out j y h hy
              · obtain rfl : j = k := by omega
                rw [Hx.out] at hy
                obtain rfl := Option.some.inj hy
                exact Hset.out
            clear hset
            go_wp2_with (go_at_call 54; refine (isSetI _ _ _).mono ?_; rw [Hset.out]; rintro e w' ⟨rfl, rfl⟩)
            go_round
            case rel => exact ⟨k + 1, by omega, by go_num, Hok2⟩
            case measure => simp [intOf]; omega
        · have H : Hid (okSets n xs = true) := okSets_mk Hn.out hlen (fun x hx => by
            obtain ⟨j, hj, hje⟩ := List.mem_iff_getElem.1 hx
            exact hok.out j x (by omega) (List.getElem?_eq_some_iff.2 ⟨hj, hje⟩))
          go_wp2
          go_ret
          exact ⟨ret_bool H.out.symm, rfl⟩
    · have H := hide (okSets_len (n := n) hlen)
      have hlen2 : 64 < xs.length := by omega
      clear hlen
      go_enter Tryz.func43, Tryz.ntmps43
      go_wp2
      go_ret
      exact ⟨ret_bool H.out.symm, rfl⟩
  · have H := hide (okSets_n (xs := xs) hn)
    rcases Int.lt_or_le n 1 with h | h
    · clear hn
      go_enter Tryz.func43, Tryz.ntmps43
      go_wp2
      go_ret
      exact ⟨ret_bool H.out.symm, rfl⟩
    · have h2 : 6 < n := by omega
      clear hn
      go_enter Tryz.func43, Tryz.ntmps43
      go_wp2
      go_ret
      exact ⟨ret_bool H.out.symm, rfl⟩

theorem makeComplexI (n : Int) (v : Value) (xs : List Int) (w : World) (h : IntsAt w w.heap.size v xs) (hl : xs.length ≤ 1073741824) :
    Calls Tryz.prog 10 #[.int .i64 n, v] w fun e w' => RetCB 3 w (mkN n xs) (mkXs n xs) (okSets n xs) e w' := by
  have ha := hide (ReadsV.alloc h (.cells #[.int .i64 0, .slice none 0 0] 26))
  clear h
  cases hok : okSets n xs
  · have Hok := hide hok
    go_enter Tryz.func10, Tryz.ntmps10
    go_wp2_with fail
    refine (areSetsOfI n v xs _ ha.out hl).mono ?_
    rw [hok]
    rintro e w1 ⟨rfl, rfl⟩
    clear hok
    go_wp2
    refine bodyPost_ret (v := .tuple #[.agg #[.int .i64 0, .slice none 0 0], .bool false]) (by simp [results, Tryz.results10, go_sem]) rfl ?_
    have hr := retCB_not Hok.out (below_alloc w (.cells #[.int .i64 0, .slice none 0 0] 26))
    rwa [Hok.out] at hr
  · have Hok := hide hok
    have Hall := hide (okSets_all hok)
    go_enter Tryz.func10, Tryz.ntmps10
    go_wp2_with fail
    refine (areSetsOfI n v xs _ ha.out hl).mono ?_
    rw [hok]
    rintro e w1 ⟨rfl, rfl⟩
    clear hok
    go_wp2_with fail
    refine (familyOfI v xs _ ha.out hl).mono ?_
    rw [Hall.out, famRes_yes Hall.out]
    rintro e w1 ⟨rfl, rfl⟩
    go_wp2_with fail
    refine (complexOfI n (inList xs) _).mono ?_
    rintro e w1 ⟨v', rfl, hown, hb⟩
    obtain ⟨A', c', rfl⟩ := own_shape hown
    obtain ⟨ho, hfar⟩ := own_far (C := w.heap.size + 1) (D := w.heap.size) hown (by (try simp only [World.size_alloc]); omega) (by (try simp only [World.size_alloc]); omega)
    have Ho := hide ho
    have Hfar := hide hfar
    have Hb : Hid (Below w.heap.size w w1) := (below_alloc w _).trans (hb.mono (by (try simp only [World.size_alloc]); omega))
    obtain ⟨hc, hf⟩ := bcell hb
    have hz := hb.size
    simp only [World.size_alloc] at hz
    clear hown hb ho hfar
    go_wp2
    refine bodyPost_ret (v := .tuple #[.agg #[.int .i64 n, .slice A' (zs (maxOf (inList xs))).length c'], .bool true]) (by simp [results, Tryz.results10, go_sem, hc]) rfl ?_
    refine retCB_made1 Hok.out (own_setNe (own_setNe Ho.out (fun k hk => by have := Hfar.out k hk; omega) _ _) (fun k hk => by have := Hfar.out k hk; omega) _ _) ?_
    have hbw := Hb.out
    go_grown

theorem makeComplexS (n : Int) (v : Value) (xs : List Int) (w : World) (h : IntsAt w w.heap.size v xs) (hl : xs.length ≤ 1073741824) :
    Calls Tryz.prog 11 #[.int .i64 n, v] w fun e w' => RetCB 3 w (mkN n xs) (mkXs n xs) (okSets n xs) e w' := by
  obtain ⟨w1, hW1, at1, b1, z1⟩ := boxC w (.int .i64 0) (.slice none 0 0) 26
  have Ha := hide (now_ h b1)
  have Hat := hide at1
  have B1 := hide b1
  obtain ⟨A, c, rfl, hcap, he⟩ := form_ Ha.out
  have He := hide he
  clear h he at1 b1
  have Hfz : Hid (∀ o, w1.frozen? ⟨w.heap.size, o, none⟩ = false) := by
    intro o
    rw [← hW1]
    simp [go_sem]
  go_enter Tryz.func11, Tryz.ntmps11
  go_wp2_with fail
  clear hW1
  go_loop [6] (fun i => ∃ k : Nat, k ≤ xs.length ∧ i = .int .i64 k ∧ Hid (∀ (j : Nat) x, j < k → xs[j]? = some x → isSetB n x = true)) (fun i => xs.length - (intOf i).toNat)
  case atStart => exact ⟨0, by omega, rfl, fun j x hj => by omega⟩
  case round =>
    obtain ⟨k, hk, rfl, hok⟩ := hrel
    by_cases hlt : k < xs.length
    · obtain ⟨b, o, x, rfl, hb, hx, hcx⟩ := He.out k hlt
      have Hx := hide hx
      clear hx
      cases hset : isSetB n x
      · have H := hide (okSets_bad (List.mem_of_getElem? Hx.out) hset)
        have Hset := hide hset
        have hf0 := Hfz.out 0
        have hf1 := Hfz.out 1
        obtain ⟨e0, e1⟩ := Hat.out
        have hwb : w.heap.size < w1.heap.size := by omega
        clear hset
        go_wp2_with (go_at_call 46; refine (isSetS _ _ _).mono ?_; rw [Hset.out]; rintro e w' ⟨rfl, rfl⟩)
        refine bodyPost_ret (v := .tuple #[.agg #[.int .i64 0, .slice none 0 0], .bool false]) (by simp [results, Tryz.results11, go_sem, e0, e1]) rfl ?_
        refine retCB_not H.out ?_
        have hbw := B1.out
        go_grown
      · have Hset := hide hset
        have Hok2 : Hid (∀ (j : Nat) x, j < k + 1 → xs[j]? = some x → isSetB n x = true) := by
          intro j y hj hy
          rcases Nat.lt_or_ge j k with h | h
          · exact hok.out j y h hy
          · obtain rfl : j = k := by omega
            rw [Hx.out] at hy
            obtain rfl := Option.some.inj hy
            exact Hset.out
        clear hset
        go_wp2_with (go_at_call 46; refine (isSetS _ _ _).mono ?_; rw [Hset.out]; rintro e w' ⟨rfl, rfl⟩)
        go_round
        case rel => exact ⟨k + 1, by omega, by go_num, Hok2⟩
        case measure => simp [intOf]; omega
    · have Hall : Hid (∀ x ∈ xs, isSetB n x = true) := (fun x hx => by
        obtain ⟨j, hj, hje⟩ := List.mem_iff_getElem.1 hx
        exact hok.out j x (by omega) (List.getElem?_eq_some_iff.2 ⟨hj, hje⟩))
      clear hok
      have hf0 := Hfz.out 0
      have hf1 := Hfz.out 1
      obtain ⟨e0, e1⟩ := Hat.out
      have hwb : w.heap.size < w1.heap.size := by omega
      by_cases hn : 1 ≤ n ∧ n ≤ 6
      · have Hin : Hid (inB n 1 6 = true) := inB_mk hn
        by_cases hlen : xs.length ≤ 64
        · have Hok := hide (okSets_mk hn hlen Hall.out)
          have Hsets := hide (okSets_all Hok.out)
          clear hn
          go_wp2_with (go_at_call 47; refine (l1InS _ _ _ _).mono ?_; rw [Hin.out]; rintro e w' ⟨rfl, rfl⟩)
          refine (l3MakeS n _ xs _ Ha.out hl Hsets.out).mono ?_
          rintro e w2 ⟨v', rfl, hown, hb⟩
          obtain ⟨A', c', rfl⟩ := own_shape hown
          obtain ⟨ho, hfar⟩ := own_far (C := w.heap.size + 1) (D := w.heap.size) hown (by omega) (by omega)
          have Ho := hide ho
          have Hfar := hide hfar
          have Hb : Hid (Below w.heap.size w w2) := B1.out.trans (hb.mono (by omega))
          obtain ⟨hc, hf⟩ := bcell hb
          have hz := hb.size
          have e0' := (hc w.heap.size 0 hwb).trans e0
          have e1' := (hc w.heap.size 1 hwb).trans e1
          have f0' := (hf w.heap.size 0 hwb).trans hf0
          have f1' := (hf w.heap.size 1 hwb).trans hf1
          clear hown hb ho hfar hc hf e0 e1 hf0 hf1
          go_wp2
          refine bodyPost_ret (v := .tuple #[.agg #[.int .i64 n, .slice A' (zs (maxOf (inList xs))).length c'], .bool true]) (by simp [results, Tryz.results11, go_sem, e0', e1']) rfl ?_
          refine retCB_made Hok.out (own_setNe (own_setNe Ho.out (fun k hk => by have := Hfar.out k hk; omega) _ _) (fun k hk => by have := Hfar.out k hk; omega) _ _) ?_
          have hbw := Hb.out
          go_grown
        · have H := hide (okSets_len (n := n) hlen)
          have hlen2 : 64 < xs.length := by omega
          clear hn hlen
          go_wp2_with (go_at_call 47; refine (l1InS _ _ _ _).mono ?_; rw [Hin.out]; rintro e w' ⟨rfl, rfl⟩)
          refine bodyPost_ret (v := .tuple #[.agg #[.int .i64 0, .slice none 0 0], .bool false]) (by simp [results, Tryz.results11, go_sem, e0, e1]) rfl ?_
          refine retCB_not H.out ?_
          have hbw := B1.out
          go_grown
      · have Hin : Hid (inB n 1 6 = false) := inB_no hn
        have H := hide (okSets_n (xs := xs) hn)
        clear hn
        go_wp2_with (go_at_call 47; refine (l1InS _ _ _ _).mono ?_; rw [Hin.out]; rintro e w' ⟨rfl, rfl⟩)
        refine bodyPost_ret (v := .tuple #[.agg #[.int .i64 0, .slice none 0 0], .bool false]) (by simp [results, Tryz.results11, go_sem, e0, e1]) rfl ?_
        refine retCB_not H.out ?_
        have hbw := B1.out
        go_grown
end

/- Small laws for FnComplexes. -/
section
open Go.RowKit

theorem asRB {P : Program} {f : Nat} {args : Array Value} {w : World} {b b' : Bool} (h : Calls P f args w fun e w' => RetB w b e w') (hb : b' = b) : Calls P f args w fun e w' => RetB w b' e w' := by subst hb; exact h
theorem asS2 {P : Program} {f : Nat} {args : Array Value} {w : World} {l l' : List UInt8} (h : Calls P f args w fun e w' => RetS w l e w') (hl : l' = l) : Calls P f args w fun e w' => RetS w l' e w' := by subst hl; exact h
theorem pcx_len (l : List UInt8) : (pcxXs l).length ≤ l.length + 1 := by
  unfold pcxXs setsXs
  split
  · split
    · simp
    · rw [List.length_map]
      have h := splitB_len 44 (l.drop 2)
      rw [List.length_drop] at h
      omega
  · simp
theorem faces_len (n : Int) (xs : List Int) : (zs (facesOf n xs)).length ≤ 64 := by
  rw [zs_len20]
  unfold facesOf
  split
  · exact listOf_64 _
  · simp
theorem faces_none {n : Int} {xs : List Int} (h : false = isCx n xs) : (zs (facesOf n xs)).length = 0 := by
  rw [zs_len20, facesOf_no h.symm]
  rfl
theorem made_again {n : Int} {xs : List Int} (h : true = isCx n xs) : mkN n (zs (facesOf n xs)) = n ∧ mkXs n (zs (facesOf n xs)) = xs ∧ okSets n (zs (facesOf n xs)) = true := by
  obtain ⟨h1, h2, h3, h4⟩ := again h.symm
  have ho : okSets n (zs (facesOf n xs)) = true := okSets_mk (cx_n h.symm) (by rw [zs_len20]; exact h3) (fun x hx => by
    obtain ⟨s, hs, rfl⟩ := List.mem_map.1 hx
    exact h4 s hs)
  refine ⟨?_, ?_, ho⟩
  · unfold mkN
    rw [ho]
    rfl
  · unfold mkXs
    rw [ho, if_pos rfl, h1]
    exact h2
end

/- Walks: EqualComplex. -/
section
open Go.RowKit

theorem l2SameS (v1 v2 : Value) (xs ys : List Int) (w : World) (h1 : IntsAt w w.heap.size v1 xs) (h2 : IntsAt w w.heap.size v2 ys) (hl1 : xs.length ≤ 1073741824) (_hl2 : ys.length ≤ 1073741824) :
    Calls Tryz.prog 59 #[v1, v2] w fun e w' => RetB w (decide (xs = ys)) e w' := by
  obtain ⟨A1, c1, rfl, hc1, he1⟩ := form_ h1
  obtain ⟨A2, c2, rfl, hc2, he2⟩ := form_ h2
  clear h1 h2
  by_cases hl : xs.length = ys.length
  · have hlen := hide hl
    have hbe : ((xs.length : Int) != (ys.length : Int)) = false := by rw [hl]; simp
    have h12 : xs.length ≤ ys.length := by omega
    have h21 : ys.length ≤ xs.length := by omega
    clear hl
    go_enter Tryz.func59, Tryz.ntmps59
    go_wp2
    go_loopw [5] (fun i wr => ∃ (k n : Nat), k ≤ xs.length ∧ i = .int .i64 k ∧ xs.take k = ys.take k ∧ wr = w.drewN n) (fun i _ => xs.length - (intOf i).toNat)
    case atStart => exact ⟨0, 0, by omega, rfl, by simp, rfl⟩
    case round =>
      obtain ⟨k, n, hk, rfl, ht, rfl⟩ := hrel
      have Ht := hide ht
      clear ht
      by_cases hlt : k < xs.length
      · have hlt2 : k < ys.length := by omega
        obtain ⟨b1, o1, x, rfl, hb1, hx, hcx⟩ := he1 k hlt
        obtain ⟨b2, o2, y, rfl, hb2, hy, hcy⟩ := he2 k hlt2
        have Hx := hide hx
        have Hy := hide hy
        clear hx hy he1 he2
        by_cases hxy : x = y
        · have hne : (x != y) = false := by simp [hxy]
          have Hxy := hide hxy
          clear hxy
          go_wp2
          go_quiet (fail)
          go_wp2
          go_roundw
          case rel => exact ⟨k + 1, _, by omega, by go_num, by rw [take_snoc _ _ _ Hx.out, take_snoc _ _ _ Hy.out, Ht.out, Hxy.out], rfl⟩
          case measure => simp [intOf]; omega
        · have hne : (x != y) = true := by simp [hxy]
          have Hxy := hide hxy
          clear hxy
          go_wp2
          go_quiet (fail)
          go_wp2
          go_ret
          refine ⟨ret_bool ?_, below_drewN (below_drewN (Below.refl _ _) _) _⟩
          symm
          apply decide_eq_false
          intro h
          have h1 := Hx.out
          have h2 := Hy.out
          rw [h, h2] at h1
          exact Hxy.out (Option.some.inj h1).symm
      · clear he1 he2
        go_wp2
        go_ret
        refine ⟨ret_bool ?_, below_drewN (Below.refl _ _) _⟩
        symm
        apply decide_eq_true
        have := Ht.out
        rwa [take_all _ _ (by omega), take_all _ _ (by omega)] at this
  · have hlen := hide hl
    have hbe : ((xs.length : Int) != (ys.length : Int)) = true := by simp; omega
    clear hl he1 he2
    go_enter Tryz.func59, Tryz.ntmps59
    go_wp2
    go_ret
    refine ⟨ret_bool ?_, Below.refl _ _⟩
    symm
    apply decide_eq_false
    intro h
    exact hlen.out (by rw [h])

theorem slicesEqual_any (v1 v2 : Value) (xs ys : List Int) (w : World) (h1 : IntsAt w w.heap.size v1 xs) (h2 : IntsAt w w.heap.size v2 ys) (hl1 : xs.length ≤ 1073741824) (_hl2 : ys.length ≤ 1073741824) :
    Calls Tryz.prog 58 #[v1, v2] w fun e w' => RetB w (decide (xs = ys)) e w' := by
  obtain ⟨A1, c1, rfl, hc1, he1⟩ := form_ h1
  obtain ⟨A2, c2, rfl, hc2, he2⟩ := form_ h2
  clear h1 h2
  by_cases hl : xs.length = ys.length
  · have hlen := hide hl
    have hbe : ((xs.length : Int) != (ys.length : Int)) = false := by rw [hl]; simp
    have h12 : xs.length ≤ ys.length := by omega
    have h21 : ys.length ≤ xs.length := by omega
    clear hl
    go_enter Tryz.func58, Tryz.ntmps58
    go_wp2
    go_loopw [5, 13] (fun _ i wr => ∃ (k n : Nat), k ≤ xs.length ∧ i = .int .i64 k ∧ xs.take k = ys.take k ∧ wr = w.drewN n) (fun _ i _ => xs.length - (intOf i).toNat)
    case atStart => exact ⟨0, 0, by omega, rfl, by simp, rfl⟩
    case round =>
      obtain ⟨k, n, hk, rfl, ht, rfl⟩ := hrel
      have Ht := hide ht
      clear ht
      by_cases hlt : k < xs.length
      · have hlt2 : k < ys.length := by omega
        obtain ⟨b1, o1, x, rfl, hb1, hx, hcx⟩ := he1 k hlt
        obtain ⟨b2, o2, y, rfl, hb2, hy, hcy⟩ := he2 k hlt2
        have Hx := hide hx
        have Hy := hide hy
        clear hx hy he1 he2
        by_cases hxy : x = y
        · have hne : (x != y) = false := by simp [hxy]
          have Hxy := hide hxy
          clear hxy
          go_wp2
          go_quiet (fail)
          go_wp2
          go_roundw
          case rel => exact ⟨k + 1, _, by omega, by go_num, by rw [take_snoc _ _ _ Hx.out, take_snoc _ _ _ Hy.out, Ht.out, Hxy.out], rfl⟩
          case measure => simp [intOf]; omega
        · have hne : (x != y) = true := by simp [hxy]
          have Hxy := hide hxy
          clear hxy
          go_wp2
          go_quiet (fail)
          go_wp2
          go_ret
          refine ⟨ret_bool ?_, below_drewN (below_drewN (Below.refl _ _) _) _⟩
          symm
          apply decide_eq_false
          intro h
          have h1 := Hx.out
          have h2 := Hy.out
          rw [h, h2] at h1
          exact Hxy.out (Option.some.inj h1).symm
      · clear he1 he2
        go_wp2
        go_ret
        refine ⟨ret_bool ?_, below_drewN (Below.refl _ _) _⟩
        symm
        apply decide_eq_true
        have := Ht.out
        rwa [take_all _ _ (by omega), take_all _ _ (by omega)] at this
  · have hlen := hide hl
    have hbe : ((xs.length : Int) != (ys.length : Int)) = true := by simp; omega
    clear hl he1 he2
    go_enter Tryz.func58, Tryz.ntmps58
    go_wp2
    go_ret
    refine ⟨ret_bool ?_, Below.refl _ _⟩
    symm
    apply decide_eq_false
    intro h
    exact hlen.out (by rw [h])

theorem equalComplexI (n1 n2 : Int) (v1 v2 : Value) (xs ys : List Int) (w : World) (h1 : IntsAt w w.heap.size v1 xs) (h2 : IntsAt w w.heap.size v2 ys) (hl1 : xs.length ≤ 1073741824) (hl2 : ys.length ≤ 1073741824) :
    Calls Tryz.prog 22 #[.agg #[.int .i64 n1, v1], .agg #[.int .i64 n2, v2]] w fun e w' => RetB w (decide (n1 = n2) && decide (xs = ys)) e w' := by
  obtain ⟨A1, c1, rfl⟩ := reads_shape h1
  obtain ⟨A2, c2, rfl⟩ := reads_shape h2
  obtain ⟨w1, hW1, at1, b1, z1⟩ := boxC w (.int .i64 n1) (.slice A1 xs.length c1) 26
  obtain ⟨w2, hW2, at2, b2, z2⟩ := boxC w1 (.int .i64 n2) (.slice A2 ys.length c2) 26
  have b02 := nxt b1 b2
  have R1 := hide (now_ h1 b02)
  have R2 := hide (now_ h2 b02)
  have B2 := hide b02
  obtain ⟨e1_0, e1_1⟩ := at1.to b2
  obtain ⟨e2_0, e2_1⟩ := at2
  clear h1 h2 at1 b1 b2 b02 z1 z2
  by_cases hn : n1 = n2
  · subst hn
    have hne : (n1 == n1) = true := by simp
    go_enter Tryz.func22, Tryz.ntmps22
    go_wp2_with fail
    clear hW1 hW2
    refine (slicesEqual_any _ _ xs ys w2 R1.out R2.out hl1 hl2).mono ?_
    rintro e w3 ⟨rfl, b3⟩
    have B3 := hide (nxt B2.out b3)
    go_wp2
    go_ret
    exact ⟨ret_bool (by simp), B3.out⟩
  · have hne : (n1 == n2) = false := by simpa using hn
    have Hn := hide hn
    clear hn
    go_enter Tryz.func22, Tryz.ntmps22
    go_wp2
    go_ret
    exact ⟨ret_bool (by rw [decide_eq_false Hn.out]; rfl), B2.out⟩
theorem equalComplexS (n1 n2 : Int) (v1 v2 : Value) (xs ys : List Int) (w : World) (h1 : IntsAt w w.heap.size v1 xs) (h2 : IntsAt w w.heap.size v2 ys) (hl1 : xs.length ≤ 1073741824) (hl2 : ys.length ≤ 1073741824) :
    Calls Tryz.prog 23 #[.agg #[.int .i64 n1, v1], .agg #[.int .i64 n2, v2]] w fun e w' => RetB w (decide (n1 = n2) && decide (xs = ys)) e w' := by
  obtain ⟨A1, c1, rfl⟩ := reads_shape h1
  obtain ⟨A2, c2, rfl⟩ := reads_shape h2
  obtain ⟨w1, hW1, at1, b1, z1⟩ := boxC w (.int .i64 n1) (.slice A1 xs.length c1) 26
  obtain ⟨w2, hW2, at2, b2, z2⟩ := boxC w1 (.int .i64 n2) (.slice A2 ys.length c2) 26
  have b02 := nxt b1 b2
  have R1 := hide (now_ h1 b02)
  have R2 := hide (now_ h2 b02)
  have B2 := hide b02
  obtain ⟨e1_0, e1_1⟩ := at1.to b2
  obtain ⟨e2_0, e2_1⟩ := at2
  clear h1 h2 at1 b1 b2 b02 z1 z2
  by_cases hn : n1 = n2
  · subst hn
    have hne : (n1 == n1) = true := by simp
    go_enter Tryz.func23, Tryz.ntmps23
    go_wp2_with fail
    clear hW1 hW2
    refine (l2SameS _ _ xs ys w2 R1.out R2.out hl1 hl2).mono ?_
    rintro e w3 ⟨rfl, b3⟩
    have B3 := hide (nxt B2.out b3)
    go_wp2
    go_ret
    exact ⟨ret_bool (by simp), B3.out⟩
  · have hne : (n1 == n2) = false := by simpa using hn
    have Hn := hide hn
    clear hn
    go_enter Tryz.func23, Tryz.ntmps23
    go_wp2
    go_ret
    exact ⟨ret_bool (by rw [decide_eq_false Hn.out]; rfl), B2.out⟩
end

/- The rows' frame: arguments that came in, opened to what the walks ask; and what a row asks behind a walk that returns true and leaves old memory as it was. -/
section
open Go.ChangeShapes Go.WideShapes Go.ChangeAt Go.RowKit
open Go.ChangeMaps (open_string shut_string)
open Go.Deep

theorem own : ownKnob Tryz.prog.godebug = none := by kernel_rfl
theorem laidOut : laidOutB Tryz.prog = true := by kernel_rfl

section
variable {H : Type} {enc : TypeId × Value → H} {P : Program} {w : World} {base : Nat} {spare : Nat → Bool} {held : Bool}

theorem add_none (b o i : Nat) : (⟨b, o, none⟩ : Addr).add i = ⟨b, o + i, none⟩ := by
  unfold Addr.add
  split <;> simp_all

/-- An int's bounds. -/
theorem wf_i64 {a : Int} (h : (Lit.int .i64 a).wf = true) : -9223372036854775808 ≤ a ∧ a ≤ 9223372036854775807 := by
  have h1 : IntKind.i64.min = -9223372036854775808 := rfl
  have h2 : IntKind.i64.max = 9223372036854775807 := rfl
  simp only [Lit.wf, Bool.and_eq_true, decide_eq_true_eq] at h
  omega

theorem openInts1 {t e : TypeId} (ht : P.underlying t = some (.slice e)) (he : P.underlying e = some (.int .i64)) (hc : P.cellsOf e = 1) {v : Value} {fuel : Nat} {y : DataW H × List MemPlace} (hf : DataW.trod enc P w base spare held fuel t [v] = some y) :
    ∃ xs : List Int, IntsAt w w.heap.size v xs ∧ xs.length ≤ 9223372036854775807 ∧ ∀ x ∈ xs, -9223372036854775808 ≤ x ∧ x ≤ 9223372036854775807 := by
  rcases open_ints ht he hc hf with ⟨hcs, _⟩ | ⟨a, len, cap, zs, hcs, _, hl, hm, hz, _, hcell, hwz⟩
  · obtain rfl : v = .slice none 0 0 := by simpa using hcs
    exact ⟨[], ReadsV.nil_ _ _, by simp, by simp⟩
  · obtain rfl : v = .slice (some a) len cap := by simpa using hcs
    unfold maxLen at hm
    have hzl : len ≤ zs.length := by rw [hz]; split <;> omega
    have hlen : (zs.take len).length = len := by rw [List.length_take]; omega
    refine ⟨zs.take len, ⟨some a, cap, by rw [ints_length, hlen], by rw [ints_length, hlen]; exact hl, fun hn => ?_⟩, by omega, fun x hx => wf_i64 (hwz x (List.mem_of_mem_take hx))⟩
    rw [ints_length, hlen] at hn
    have h0 := hcell 0 (by omega)
    obtain ⟨b, o, sp⟩ := a
    have hsp : sp = none := by simpa [Addr.add] using World.cell?_spot h0
    subst hsp
    have hb := World.block_lt_of_cell? _ _ h0
    rw [add_none] at hb
    refine ⟨b, o, rfl, hb, fun i u hu => ?_⟩
    rw [ints, List.getElem?_map, List.getElem?_take] at hu
    split at hu
    · rename_i hi
      have := hcell i (by omega)
      rw [add_none] at this
      rw [this]
      rw [List.getElem?_eq_getElem (by omega)] at hu
      simp at hu
      rw [← hu, List.getD, List.getElem?_eq_getElem (by omega)]
      rfl
    · cases hu
theorem openInts {t e : TypeId} (ht : P.underlying t = some (.slice e)) (he : P.underlying e = some (.int .i64)) (hc : P.cellsOf e = 1) {v : Value} {d : DataW H} {ps : List MemPlace} (h : DataW.Trod enc P w base spare held t v d ps) (hv : ∃ a l c, v = .slice a l c) :
    ∃ xs : List Int, IntsAt w w.heap.size v xs ∧ xs.length ≤ 9223372036854775807 ∧ ∀ x ∈ xs, -9223372036854775808 ≤ x ∧ x ≤ 9223372036854775807 := by
  obtain ⟨fuel, hf⟩ := h
  obtain ⟨a0, l0, c0, rfl⟩ := hv
  exact openInts1 ht he hc (show DataW.trod enc P w base spare held fuel t [.slice a0 l0 c0] = some _ by simpa [Value.cells] using hf)
/-- A struct of an int and a slice of ints. -/
theorem openComplex {t e : TypeId} {f0 f1 : Field} (hs : P.underlying t = some (.struct #[f0, f1])) (hone : oneCellFields P #[f0, f1] = true) (hC : P.cellsOf t = 2) (h0 : P.underlying f0.type = some (.int .i64)) (h1 : P.underlying f1.type = some (.slice e)) (he : P.underlying e = some (.int .i64)) (hc : P.cellsOf e = 1)
    {r : Reach} {b0 : Nat} {v : Value} {d : DataW H} {ps : List MemPlace} (hv : Value.okWide P w r b0 t v) (h : DataW.Trod enc P w base spare held t v d ps) :
    ∃ (n : Int) (u : Value) (xs : List Int), v = .agg #[.int .i64 n, u] ∧ IntsAt w w.heap.size u xs ∧ xs.length ≤ 9223372036854775807 ∧ (-9223372036854775808 ≤ n ∧ n ≤ 9223372036854775807) ∧ ∀ x ∈ xs, -9223372036854775808 ≤ x ∧ x ≤ 9223372036854775807 := by
  obtain ⟨v0, v1, y0, y1, n, rfl, _, _, t0, t1⟩ := Go.Joins.open_agg2 hs hone hC hv h
  obtain ⟨m, hm, _, hw⟩ := DataW.trod_int h0 t0
  obtain rfl : v0 = .int .i64 m := by simpa using hm
  obtain ⟨xs, hx, hl, hb⟩ := openInts1 h1 he hc t1
  exact ⟨m, v1, xs, rfl, hx, hl, wf_i64 hw, hb⟩
end

/-- Each of these types can be read. -/
def AllR (P : Program) : List TypeId → Prop
  | [] => True
  | t :: ts => (P.readableRec t = true ∧ t < P.types.size) ∧ AllR P ts
/-- ARGS of a row: whatever came in reads as it did. -/
theorem back_all {H : Type} {enc : TypeId × Value → H} {P : Program} (hl : laidOutB P = true) : ∀ (ts : List TypeId) (vs : List Value) (ds : List (DataW H)) (ps : List MemPlace) {W W' : World}, AllR P ts →
    DataW.TrodAll enc P W 0 (fun _ => true) true ts vs ds ps → Below W.heap.size W W' → DataW.TrodAll enc P W' 0 (fun b => decide (b < W.heap.size)) true ts vs ds ps := by
  intro ts
  induction ts with
  | nil =>
    intro vs ds ps W W' _ h _
    obtain ⟨rfl, rfl, rfl⟩ := trodAll_nil h
    exact trodAll_mk0
  | cons t ts ih =>
    intro vs ds ps W W' ht h hb
    obtain ⟨v0, vs0, d0, ds0, p0, q0, rfl, rfl, rfl, h0, r0⟩ := trodAll_cons h
    have hk := h0
    obtain ⟨m, hm⟩ := hk
    have lt0 : ∀ x ∈ p0, x.block < W.heap.size := DataW.trod_lt m _ _ _ hm
    exact trodAll_cons_mk (Below.trod hl ht.1.1 ht.1.2 h0 hb lt0) (ih _ _ _ ht.2 r0 hb)

/-- A byte that fits its kind is one. -/
theorem byte_of {y : Int} (h : (Lit.int .u8 y).wf = true) : ∃ a : UInt8, y = (a.toNat : Int) := by
  have h1 : IntKind.u8.min = 0 := rfl
  have h2 : IntKind.u8.max = 255 := rfl
  simp only [Lit.wf, Bool.and_eq_true, decide_eq_true_eq] at h
  refine ⟨UInt8.ofNat y.toNat, ?_⟩
  rw [UInt8.toNat_ofNat_of_lt' (by show y.toNat < 256; omega)]
  omega
theorem str_of (s : ByteArray) (h : s.size ≤ maxLen) : ∃ l : List UInt8, s = ⟨l.toArray⟩ ∧ l.length ≤ 9223372036854775807 := by
  unfold maxLen at h
  exact ⟨s.data.toList, by simp, by simpa using h⟩
end

/- The rows' frame: a slice of strings, a slice of bytes that came in. -/
section
open Go.ChangeShapes Go.WideShapes Go.ChangeAt Go.RowKit
open Go.Deep

section
variable {H : Type} {enc : TypeId × Value → H} {P : Program} {w : World} {base : Nat} {spare : Nat → Bool} {held : Bool}

theorem openStrs1 {t e : TypeId} (ht : P.underlying t = some (.slice e)) (he : P.underlying e = some .string) (hc : P.cellsOf e = 1) {v : Value} {fuel : Nat} {y : DataW H × List MemPlace} (hf : DataW.trod enc P w base spare held fuel t [v] = some y) :
    ∃ ls : List (List UInt8), StrsAt w w.heap.size v ls ∧ ls.length ≤ 9223372036854775807 ∧ ∀ l ∈ ls, l.length ≤ 9223372036854775807 := by
  rcases open_strs ht he hc hf with ⟨hcs, _⟩ | ⟨a, len, cap, m, Sx, hcs, _, hl, hm, hmm, _, hcell⟩
  · obtain rfl : v = .slice none 0 0 := by simpa using hcs
    exact ⟨[], ReadsV.nil_ _ _, by simp, by simp⟩
  · obtain rfl : v = .slice (some a) len cap := by simpa using hcs
    have hm' := hm
    unfold maxLen at hm'
    have hlm : len ≤ m := by rw [hmm]; split <;> omega
    have hL : ((List.range len).map fun i => (Sx i).data.toList).length = len := by simp
    refine ⟨(List.range len).map fun i => (Sx i).data.toList, ⟨some a, cap, by rw [strsV_length, hL], by rw [strsV_length, hL]; exact hl, fun hn => ?_⟩, by omega, fun l hl' => ?_⟩
    · rw [strsV_length, hL] at hn
      have h0 := (hcell 0 (by omega)).1
      obtain ⟨b, o, sp⟩ := a
      have hsp : sp = none := by simpa [Addr.add] using World.cell?_spot h0
      subst hsp
      have hb := World.block_lt_of_cell? _ _ h0
      rw [add_none] at hb
      refine ⟨b, o, rfl, hb, fun i u hu => ?_⟩
      by_cases hi : i < len
      · have := (hcell i (by omega)).1
        rw [add_none] at this
        rw [this]
        have e : (strsV ((List.range len).map fun i => (Sx i).data.toList))[i]? = some (.string (Sx i)) := by simp [strsV, hi]
        rw [e] at hu
        exact hu
      · rw [List.getElem?_eq_none (by rw [strsV_length, hL]; omega)] at hu
        cases hu
    · obtain ⟨i, hi, rfl⟩ := List.mem_map.1 hl'
      have := (hcell i (by have := List.mem_range.1 hi; omega)).2
      unfold maxLen at this
      simpa using this
theorem openStrs {t e : TypeId} (ht : P.underlying t = some (.slice e)) (he : P.underlying e = some .string) (hc : P.cellsOf e = 1) {v : Value} {d : DataW H} {ps : List MemPlace} (h : DataW.Trod enc P w base spare held t v d ps) (hv : ∃ a l c, v = .slice a l c) :
    ∃ ls : List (List UInt8), StrsAt w w.heap.size v ls ∧ ls.length ≤ 9223372036854775807 ∧ ∀ l ∈ ls, l.length ≤ 9223372036854775807 := by
  obtain ⟨fuel, hf⟩ := h
  obtain ⟨a0, l0, c0, rfl⟩ := hv
  exact openStrs1 ht he hc (show DataW.trod enc P w base spare held fuel t [.slice a0 l0 c0] = some _ by simpa [Value.cells] using hf)
end
end

/- The rows' frame: a slice of bytes that came in. -/
section
open Go.ChangeShapes Go.WideShapes Go.ChangeAt Go.RowKit
open Go.Deep

section
variable {H : Type} {enc : TypeId × Value → H} {P : Program} {w : World} {base : Nat} {spare : Nat → Bool} {held : Bool}

theorem openBytes1 {t e : TypeId} (ht : P.underlying t = some (.slice e)) (he : P.underlying e = some (.int .u8)) (hc : P.cellsOf e = 1) {v : Value} {fuel : Nat} {y : DataW H × List MemPlace} (hf : DataW.trod enc P w base spare held fuel t [v] = some y) :
    ∃ ls : List UInt8, BytesAt w w.heap.size v ls ∧ ls.length ≤ 9223372036854775807 := by
  rcases open_ints ht he hc hf with ⟨hcs, _⟩ | ⟨a, len, cap, zs, hcs, _, hl, hm, hz, _, hcell, hwz⟩
  · obtain rfl : v = .slice none 0 0 := by simpa using hcs
    exact ⟨[], ReadsV.nil_ _ _, by simp⟩
  · obtain rfl : v = .slice (some a) len cap := by simpa using hcs
    unfold maxLen at hm
    have hzl : len ≤ zs.length := by rw [hz]; split <;> omega
    have hL : ((zs.take len).map fun z => UInt8.ofNat z.toNat).length = len := by rw [List.length_map, List.length_take]; omega
    have hbl : (bytesV ((zs.take len).map fun z => UInt8.ofNat z.toNat)).length = len := by rw [List.length_map]; exact hL
    refine ⟨(zs.take len).map fun z => UInt8.ofNat z.toNat, ⟨some a, cap, by rw [hbl], by rw [hbl]; exact hl, fun hn => ?_⟩, by rw [hL]; omega⟩
    rw [hbl] at hn
    have h0 := hcell 0 (by omega)
    obtain ⟨b, o, sp⟩ := a
    have hsp : sp = none := by simpa [Addr.add] using World.cell?_spot h0
    subst hsp
    have hb := World.block_lt_of_cell? _ _ h0
    rw [add_none] at hb
    refine ⟨b, o, rfl, hb, fun i u hu => ?_⟩
    rw [bytesV, List.getElem?_map, List.getElem?_map, List.getElem?_take] at hu
    split at hu
    · rename_i hi
      have := hcell i (by omega)
      rw [add_none] at this
      rw [this]
      have hzi : zs[i]? = some (zs[i]'(by omega)) := List.getElem?_eq_getElem (by omega)
      rw [hzi] at hu
      simp only [Option.map_some] at hu
      obtain ⟨y, hy⟩ := byte_of (hwz _ (List.getElem_mem (show i < zs.length by omega)))
      rw [List.getD, hzi]
      simp only [Option.getD_some]
      rw [hy] at hu ⊢
      have e : UInt8.ofNat ((y.toNat : Int)).toNat = y := by rw [Int.toNat_natCast]; simp
      rw [e] at hu
      exact hu
    · cases hu
theorem openBytes {t e : TypeId} (ht : P.underlying t = some (.slice e)) (he : P.underlying e = some (.int .u8)) (hc : P.cellsOf e = 1) {v : Value} {d : DataW H} {ps : List MemPlace} (h : DataW.Trod enc P w base spare held t v d ps) (hv : ∃ a l c, v = .slice a l c) :
    ∃ ls : List UInt8, BytesAt w w.heap.size v ls ∧ ls.length ≤ 9223372036854775807 := by
  obtain ⟨fuel, hf⟩ := h
  obtain ⟨a0, l0, c0, rfl⟩ := hv
  exact openBytes1 ht he hc (show DataW.trod enc P w base spare held fuel t [.slice a0 l0 c0] = some _ by simpa [Value.cells] using hf)
end
end
end Go.Proofs.YtmkacjpjcfffmabGreatDoor
