/- Walks: FacesOf. -/
import Derived.Test.YtmkacjpjcfffmaaW12
import Derived.Test.YtmkacjpjcfffmaaW7
namespace Go.Proofs.Ytmkacjpjcfffmaa
open Go.RowKit

def facesOf (n : Int) (xs : List Int) : List Nat := if isCx n xs then listOf (faceP xs) else []
theorem facesOf_yes {n : Int} {xs : List Int} (h : isCx n xs = true) : facesOf n xs = listOf (faceP xs) := by simp [facesOf, h]
theorem facesOf_no {n : Int} {xs : List Int} (h : isCx n xs = false) : facesOf n xs = [] := by simp [facesOf, h]
theorem facesOf_len (n : Int) (xs : List Int) : (facesOf n xs).length ≤ 448 := by
  unfold facesOf
  split
  · exact listOf_len _
  · simp
def facesTo (xs : List Int) (k : Nat) : List Nat := (List.range k).filter (faceP xs)
theorem facesTo_yes {xs : List Int} {k : Nat} (h : faceP xs k = true) : facesTo xs (k + 1) = facesTo xs k ++ [k] := by simp [facesTo, List.range_succ, h]
theorem facesTo_no {xs : List Int} {k : Nat} (h : faceP xs k = false) : facesTo xs (k + 1) = facesTo xs k := by simp [facesTo, List.range_succ, h]
theorem facesTo_len (xs : List Int) (k : Nat) : (facesTo xs k).length ≤ k := by
  have := List.length_filter_le (faceP xs) (List.range k)
  simpa [facesTo] using this
theorem in_zs (l : List Nat) (s : Nat) : inList (zs l) s = l.contains s := by
  unfold inList zs
  rw [Bool.eq_iff_iff, List.contains_iff_mem, List.contains_iff_mem, List.mem_map]
  constructor
  · rintro ⟨a, h, e⟩
    obtain rfl : a = s := Int.ofNat.inj e
    exact h
  · intro h
    exact ⟨s, h, rfl⟩
theorem facesTo_in (xs : List Int) {s : Nat} (hs : s < 64) : inList (zs (facesTo xs 64)) s = faceP xs s := by
  rw [in_zs, Bool.eq_iff_iff, List.contains_iff_mem]
  unfold facesTo
  rw [List.mem_filter, List.mem_range]
  exact ⟨fun h => h.2, fun h => ⟨hs, h⟩⟩
theorem zs_all {l : List Nat} (h : ∀ s ∈ l, s < 64) : allSets (zs l) = true := by
  refine List.all_eq_true.2 fun x hx => decide_eq_true ?_
  obtain ⟨m, hm, rfl⟩ := List.mem_map.1 hx
  have := h m hm
  constructor
  · show (0 : Int) ≤ (m : Int); omega
  · show (m : Int) < 64; omega
theorem facesTo_all (xs : List Int) : allSets (zs (facesTo xs 64)) = true := zs_all fun _ hs => List.mem_range.1 (List.mem_filter.1 hs).1
theorem zs_len20 (l : List Nat) : (zs l).length = l.length := List.length_map _
theorem listOf_none : listOf (inList []) = [] := by decide +kernel

theorem facesOfS (n : Int) (v : Value) (xs : List Int) (w : World) (h : IntsAt w w.heap.size v xs) (hl : xs.length ≤ 1073741824) :
    Calls Try.prog 55 #[.agg #[.int .i64 n, v]] w fun e w' => RetI 3 w (zs (facesOf n xs)) e w' := by
  obtain ⟨A, c, rfl⟩ := reads_shape h
  obtain ⟨w1, hW1, at1, b1, z1⟩ := boxC w (.int .i64 n) (.slice A xs.length c) 42
  have r1 := now_ h b1
  have At1 := hide at1
  have B1 := hide b1
  have R1 := hide r1
  obtain ⟨e1_0, e1_1⟩ := at1
  have Z1 := hide z1
  clear h b1 r1 z1
  cases hcx : isCx n xs
  · have Hcx := hide hcx
    clear hcx
    go_enter Try.func55, Try.ntmps55
    go_wp2_with fail
    clear hW1
    obtain ⟨ho, hbw⟩ : OwnV 3 (w1.alloc (.cells #[] 3)) w1.heap.size (.slice (some ⟨w1.heap.size, 0, none⟩) 0 0) (ints []) ∧ Below w1.heap.size w1 (w1.alloc (.cells #[] 3)) := ⟨own_empty _ _, below_alloc _ _⟩
    have Ho := hide ho
    have Hbw := hide hbw
    clear ho
    have R2 := hide (now_ R1.out hbw)
    obtain ⟨e2_0, e2_1⟩ := At1.out.to hbw
    clear e1_0 e1_1 hbw
    refine wp_loop_rounds 1 ?_
    rw [rounds_succ]
    go_wp2_with fail
    refine (isComplexS n _ xs _ R2.out hl).mono ?_
    rw [Hcx.out]
    rintro e w3 ⟨rfl, b3⟩
    have Ho3 := hide (own_below Ho.out b3)
    have Hb3 := hide (nxt Hbw.out b3)
    clear b3 e2_0 e2_1
    go_wp2_with fail
    refine (l2OrderS _ [] _ (own_reads Ho3.out) (by simp) rfl).mono ?_
    rintro e w4 ⟨v4, rfl, o4, b4⟩
    have B4 : Hid (Below w.heap.size w w4) := nxt (nxt B1.out Hb3.out) b4
    have O4 : Hid (OwnV 3 w4 w.heap.size v4 (ints (zs (listOf (inList []))))) := own_mono o4 (nxt B1.out Hb3.out).size
    clear b4 o4
    go_wp2
    go_ret
    exact ⟨_, rfl, by rw [facesOf_no Hcx.out]; have := O4.out; rw [listOf_none] at this; exact this, B4.out⟩
  · have Hcx := hide hcx
    clear hcx
    go_enter Try.func55, Try.ntmps55
    go_wp2_with fail
    clear hW1
    obtain ⟨ho, hbw⟩ : OwnV 3 (w1.alloc (.cells #[] 3)) w1.heap.size (.slice (some ⟨w1.heap.size, 0, none⟩) 0 0) (ints (zs (facesTo xs 0))) ∧ Below w1.heap.size w1 (w1.alloc (.cells #[] 3)) := ⟨own_empty _ _, below_alloc _ _⟩
    have Ho := hide ho
    have Hbw := hide hbw
    clear ho hbw e1_0 e1_1
    go_loopw [3, 4] (fun v i wr => ∃ k : Nat, k ≤ 64 ∧ i = .int .i64 k ∧ Hid (OwnV 3 wr w1.heap.size v (ints (zs (facesTo xs k)))) ∧ Hid (Below w1.heap.size w1 wr)) (fun _ i _ => 64 - (intOf i).toNat)
    case atStart => exact ⟨0, by omega, rfl, Ho, Hbw⟩
    case round =>
      obtain ⟨k, hk, rfl, hown, hb⟩ := hrel
      by_cases hlt : k < 64
      · obtain ⟨e2_0, e2_1⟩ := At1.out.to hb.out
        have hdk : decide ((k : Int) < 64) = true := by simp; omega
        go_wp2_with fail
        refine (isComplexS n _ xs wr (now_ R1.out hb.out) hl).mono ?_
        rw [Hcx.out]
        rintro e w3 ⟨rfl, b3⟩
        have hb3 := nxt hb.out b3
        have Hb3 := hide hb3
        have Ho3 := hide (own_below hown.out b3)
        obtain ⟨e3_0, e3_1⟩ := At1.out.to hb3
        clear e2_0 e2_1 hb3 b3 hb hown
        go_wp2_with fail
        refine (l3HasS n _ xs k w3 (now_ R1.out Hb3.out) hl Hcx.out hlt).mono ?_
        cases hf : faceP xs k
        · have Hn := hide (facesTo_no hf)
          clear hf
          rintro e w4 ⟨rfl, b4⟩
          have Hb4 := hide (nxt Hb3.out b4)
          have Ho4 := hide (own_below Ho3.out b4)
          clear e3_0 e3_1 b4
          go_wp2
          go_roundw
          case rel => exact ⟨k + 1, by omega, by go_num, by rw [Hn.out]; exact Ho4, Hb4⟩
          case measure => simp [intOf]; omega
        · have Hy := hide (facesTo_yes hf)
          clear hf
          rintro e w4 ⟨rfl, b4⟩
          have Hb4 := hide (nxt Hb3.out b4)
          have ho4 := own_below Ho3.out b4
          have hsz := Hb4.out.size
          have hlen : (zs (facesTo xs k)).length < 17179869184 := by have := facesTo_len xs k; rw [zs_len20]; omega
          clear e3_0 e3_1 b4
          go_wp2_with (at_builtin; refine wpList_appI ho4 (k : Int) Try.underlying36 infoI rfl _ _ rfl rfl rfl hlen hsz ?_; intro v' w5 hown5 hb5 hg5)
          have Hown5 : Hid (OwnV 3 w5 w1.heap.size v' (ints (zs (facesTo xs (k + 1))))) := by show OwnV _ _ _ _ _; rw [Hy.out, zs_snoc]; exact hown5
          have Hb5 : Hid (Below w1.heap.size w1 w5) := Hb4.out.trans hb5
          go_wp2
          go_roundw
          case rel => exact ⟨k + 1, by omega, by go_num, Hown5, Hb5⟩
          case measure => simp [intOf]; omega
      · obtain rfl : k = 64 := by omega
        go_wp2_with fail
        refine (l2OrderS _ (zs (facesTo xs 64)) wr (own_reads hown.out) (by have := facesTo_len xs 64; rw [zs_len20]; omega) (facesTo_all xs)).mono ?_
        rintro e w4 ⟨v4, rfl, o4, b4⟩
        have B4 : Hid (Below w.heap.size w w4) := nxt (nxt B1.out hb.out) b4
        have O4 : Hid (OwnV 3 w4 w.heap.size v4 (ints (zs (facesOf n xs)))) := by
          rw [facesOf_yes Hcx.out]
          have := own_mono o4 (nxt B1.out hb.out).size
          rwa [listOf_congr (fun s hs => facesTo_in xs hs)] at this
        clear b4 o4
        go_wp2
        go_ret
        exact ⟨_, rfl, O4.out, B4.out⟩
end Go.Proofs.Ytmkacjpjcfffmaa
