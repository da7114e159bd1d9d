/- Walks: EulerOf, FacesOfSize, FaceCounts in the reference. -/
import Derived.Test.YtmkacjpjcfffmaaW20
import Derived.Test.YtmkacjpjcfffmaaMathCount
import Derived.Test.YtmkacjpjcfffmaaMore
import Derived.StillTailTactics
namespace Go.Proofs.Ytmkacjpjcfffmaa
open Go.RowKit

theorem zsElems {w : World} {B : Nat} {v : Value} {fs : List Nat} (h : IntsAt w B v (zs fs)) : ∃ A c, v = .slice A fs.length c ∧ ∀ k, k < fs.length → ∃ b o x, A = some ⟨b, o, none⟩ ∧ fs[k]? = some x ∧ w.cell? ⟨b, o + k, none⟩ = some (.int .i64 ((x : Nat) : Int)) := by
  obtain ⟨A, c, hv, _, he⟩ := form_ h
  have hl : (zs fs).length = fs.length := List.length_map _
  rw [hl] at hv he
  refine ⟨A, c, hv, fun k hk => ?_⟩
  obtain ⟨b, o, x', hA, _, hx, hcell⟩ := he k hk
  obtain ⟨x, rfl, hx'⟩ : ∃ x : Nat, x' = (x : Int) ∧ fs[k]? = some x := by
    rw [show zs fs = fs.map Int.ofNat from rfl, List.getElem?_map] at hx
    cases hfk : fs[k]? with
    | none => rw [hfk] at hx; simp at hx
    | some y => rw [hfk] at hx; simp at hx; exact ⟨y, hx.symm, rfl⟩
  exact ⟨b, o, x, hA, hx', hcell⟩
theorem facesOf_lt (n : Int) (xs : List Int) : ∀ s ∈ facesOf n xs, s < 64 := by
  unfold facesOf
  split
  · exact fun s hs => (mem_listOf.1 hs).1
  · intro s hs; cases hs
theorem eulL_faces (n : Int) (xs : List Int) : eulL (facesOf n xs) = eulerOf n xs := by
  unfold facesOf eulerOf
  split
  · exact eul_eq _ (topOf_bd _)
  · rfl
theorem sized_faces (n : Int) (xs : List Int) (k : Int) : sized k (facesOf n xs) = facesOfSize n xs k := by
  unfold facesOf facesOfSize
  split
  · by_cases h : 0 ≤ k
    · rw [if_pos h]
      obtain ⟨m, rfl⟩ := Int.eq_ofNat_of_zero_le h
      exact sized_listOf _ m
    · rw [if_neg h, sized_neg (by omega)]
  · rfl
theorem cnt_faces (n : Int) (xs : List Int) : cntM (facesOf n xs) (mxL (facesOf n xs)) = faceCounts n xs := by
  unfold facesOf faceCounts
  split
  · exact countsOf_eq _
  · rfl

theorem eulerOfS (n : Int) (v : Value) (xs : List Int) (w : World) (h : IntsAt w w.heap.size v xs) (hl : xs.length ≤ 1073741824) :
    Calls Try.prog 43 #[.agg #[.int .i64 n, v]] w fun e w' => RetN w (eulerOf n xs) e w' := by
  obtain ⟨A, c, rfl⟩ := reads_shape h
  obtain ⟨w1, hW1, at1, b1, z1⟩ := boxC w (.int .i64 n) (.slice A xs.length c) 42
  have R1 := hide (now_ h b1)
  have B1 := hide b1
  have hfin := eulL_faces n xs
  have hmem := facesOf_lt n xs
  have hl448 := facesOf_len n xs
  obtain ⟨e1_0, e1_1⟩ := at1
  clear h b1
  go_enter Try.func43, Try.ntmps43
  go_wp2_with fail
  clear hW1
  refine (facesOfS n _ xs w1 R1.out hl).mono ?_
  rintro e w2 ⟨v2, rfl, o2, b2⟩
  have B2 := hide (nxt B1.out b2)
  obtain ⟨A2, c2, rfl, he⟩ := zsElems (own_reads o2)
  have He := hide he
  have Hmem := hide hmem
  have Hfin := hide hfin
  clear e1_0 e1_1 o2 b2 he hmem hfin
  generalize facesOf n xs = fs at He Hmem Hfin hl448
  go_wp2_with fail
  go_loop [3, 5] (fun a i => ∃ k : Nat, k ≤ fs.length ∧ i = .int .i64 k ∧ a = .int .i64 (eulL (fs.take k))) (fun _ i => fs.length - (intOf i).toNat)
  case atStart => exact ⟨0, by omega, rfl, rfl⟩
  case round =>
    obtain ⟨k, hk, rfl, rfl⟩ := hrel
    by_cases hlt : k < fs.length
    · obtain ⟨b, o, x, rfl, hx, hcell⟩ := He.out k hlt
      have hx64 := Hmem.out x (List.mem_of_getElem? hx)
      have hxb : (x : Int) ≤ 9223372036854775807 := by omega
      have hbd := eulL_bd (fs.take k)
      have hpc := pc_le6 x hx64
      have htk : (fs.take k).length ≤ 448 := by rw [List.length_take]; omega
      have Hs : Hid (eulL (fs.take (k + 1)) = eulL (fs.take k) + 2 * ((pc x : Int) % 2) - 1) := by
        show _ = _
        rw [take_snoc _ _ _ hx, eulL_snoc]
        unfold sgnP
        omega
      clear hx
      go_wp2_with (go_at_call 117; refine (l2SizeS _ _ hxb).mono ?_; rw [Int.toNat_natCast]; rintro e wx ⟨rfl, rfl⟩)
      go_round
      case rel => exact ⟨k + 1, by omega, by go_num, by rw [Hs.out]⟩
      case measure => simp [intOf]; omega
    · have hk2 : fs.length ≤ k := by omega
      have Ht := hide (take_all fs k hk2)
      go_wp2
      go_ret
      exact ⟨ret_int (by rw [Ht.out]; exact Hfin.out), B2.out⟩

theorem facesOfSizeS (n : Int) (v : Value) (xs : List Int) (t : Int) (w : World) (h : IntsAt w w.heap.size v xs) (hl : xs.length ≤ 1073741824) :
    Calls Try.prog 47 #[.agg #[.int .i64 n, v], .int .i64 t] w fun e w' => RetI 3 w (zs (facesOfSize n xs t)) e w' := by
  obtain ⟨A, c, rfl⟩ := reads_shape h
  obtain ⟨w1, hW1, at1, b1, z1⟩ := boxC w (.int .i64 n) (.slice A xs.length c) 42
  have At1 := hide at1
  have R1 := hide (now_ h b1)
  have B1 := hide b1
  have hfin := sized_faces n xs t
  have hmem := facesOf_lt n xs
  have hl448 := facesOf_len n xs
  obtain ⟨e1_0, e1_1⟩ := at1
  clear h b1 z1
  obtain ⟨w2, hW2, ho, hbw⟩ : ∃ W, w1.alloc (.cells #[] 3) = W ∧ OwnV 3 W w1.heap.size (.slice (some ⟨w1.heap.size, 0, none⟩) 0 0) (ints (zs (sized t []))) ∧ Below w1.heap.size w1 W := ⟨_, rfl, own_empty _ _, below_alloc _ _⟩
  have Ho := hide ho
  have Hbw := hide hbw
  have R2 := hide (now_ R1.out hbw)
  obtain ⟨e2_0, e2_1⟩ := At1.out.to hbw
  clear ho hbw
  go_enter Try.func47, Try.ntmps47
  go_wp2_with fail
  clear hW1 hW2
  refine (facesOfS n _ xs w2 R2.out hl).mono ?_
  rintro e w4 ⟨v4, rfl, o4, b4⟩
  obtain ⟨A4, c4, rfl, _⟩ := zsElems (own_reads o4)
  have Hdis : Hid (∀ j, Value.ownBlock (.slice (some ⟨w1.heap.size, 0, none⟩) 0 0) = some j → Value.ownBlock (.slice A4 (facesOf n xs).length c4) ≠ some j) := fun j hj e => by
    have h1 := (own_block Ho.out j hj).2
    have h2 := (own_block o4 j e).1
    omega
  have Hb4 := hide (nxt Hbw.out b4)
  have Ho4 := hide (own_below Ho.out b4)
  have Hf4 := hide o4
  have Hmem := hide hmem
  have Hfin := hide hfin
  clear e1_0 e1_1 e2_0 e2_1 o4 b4 hmem hfin
  generalize facesOf n xs = fs at Hf4 Hmem Hfin hl448 Hdis
  go_wp2_with fail
  go_loopw [5, 7] (fun v i wr => ∃ k : Nat, k ≤ fs.length ∧ i = .int .i64 k ∧ Hid (OwnV 3 wr w1.heap.size v (ints (zs (sized t (fs.take k))))) ∧ Hid (Below w1.heap.size w1 wr) ∧ Hid (OwnV 3 wr w2.heap.size (.slice A4 fs.length c4) (ints (zs fs))) ∧ Hid (∀ j, Value.ownBlock v = some j → Value.ownBlock (.slice A4 fs.length c4) ≠ some j)) (fun _ i _ => fs.length - (intOf i).toNat)
  case atStart => exact ⟨0, by omega, rfl, Ho4, Hb4, Hf4, Hdis⟩
  case round =>
    obtain ⟨k, hk, rfl, hown, hb, hfs, hdis⟩ := hrel
    by_cases hlt : k < fs.length
    · obtain ⟨A5, c5, hv5, he5⟩ := zsElems (own_reads hfs.out)
      cases hv5
      obtain ⟨b, o, x, rfl, hx, hcell⟩ := he5 k hlt
      have hx64 := Hmem.out x (List.mem_of_getElem? hx)
      have hxb : (x : Int) ≤ 9223372036854775807 := by omega
      have Ht := hide (take_snoc _ _ _ hx)
      have hlen : (zs (sized t (fs.take k))).length < 17179869184 := by
        have h1 := sized_len t (fs.take k)
        have h2 := List.length_take_le k fs
        rw [List.length_map]; omega
      have hsz := hb.out.size
      have ho := hown.out
      clear he5 hx
      by_cases hs : (pc x : Int) = t
      · have Hy : Hid (sized t (fs.take (k + 1)) = sized t (fs.take k) ++ [x]) := by show _ = _; rw [Ht.out, sized_yes hs]
        have hq : ((pc x : Int) == t) = true := by rw [beq_iff_eq]; exact hs
        clear hs
        go_wp2_with (first | (at_builtin; refine wpList_appAt ho (x : Int) Try.underlying36 infoI rfl _ _ rfl rfl rfl hlen hsz ?_; intro v' w5 hown5 hb5 hg5 hat5) | (go_at_call 117; refine (l2SizeS _ _ hxb).mono ?_; rw [Int.toNat_natCast]; rintro e wx ⟨rfl, rfl⟩))
        have Hown5 : Hid (OwnV 3 w5 w1.heap.size v' (ints (zs (sized t (fs.take (k + 1)))))) := by show OwnV _ _ _ _ _; rw [Hy.out, zs_snoc]; exact hown5
        have Hb5 : Hid (Below w1.heap.size w1 w5) := hb.out.trans hb5
        have Hfs5 := hide (own_grown hfs.out hg5 (fun j hj e => hdis.out j e hj))
        have Hdis5 : Hid (∀ j, Value.ownBlock v' = some j → Value.ownBlock (.slice (some ⟨b, o, none⟩) fs.length c4) ≠ some j) := by
          intro j hj e
          rcases hat5 with h | h
          · exact hdis.out j (by rw [← h]; exact hj) e
          · have h1 := (own_block hfs.out j e).2
            rw [h] at hj
            have := Option.some.inj hj
            omega
        go_wp2
        go_roundw
        case rel => exact ⟨k + 1, by omega, by go_num, Hown5, Hb5, Hfs5, Hdis5⟩
        case measure => simp [intOf]; omega
      · have Hn : Hid (sized t (fs.take (k + 1)) = sized t (fs.take k)) := by show _ = _; rw [Ht.out, sized_no hs]
        have hq : ((pc x : Int) == t) = false := by rw [beq_eq_false_iff_ne]; exact hs
        clear hs
        go_wp2_with (go_at_call 117; refine (l2SizeS _ _ hxb).mono ?_; rw [Int.toNat_natCast]; rintro e wx ⟨rfl, rfl⟩)
        go_roundw
        case rel => exact ⟨k + 1, by omega, by go_num, by rw [Hn.out]; exact hown, hb, hfs, hdis⟩
        case measure => simp [intOf]; omega
    · have hk2 : fs.length ≤ k := by omega
      have Ht := hide (take_all fs k hk2)
      have ho6 := hown.out
      rw [Ht.out, Hfin.out] at ho6
      have Hown6 := hide ho6
      have HB : Hid (Below w.heap.size w wr) := nxt B1.out hb.out
      clear hown ho6
      go_wp2
      go_ret
      exact ⟨_, rfl, own_mono Hown6.out B1.out.size, HB.out⟩
end Go.Proofs.Ytmkacjpjcfffmaa
