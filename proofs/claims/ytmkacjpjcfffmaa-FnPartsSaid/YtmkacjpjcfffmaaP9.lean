/- Texts of one kind, laid together (5 of them). -/
import Derived.StillTailTactics
import Derived.Test.YtmkacjpjcfffmaaP1
import Derived.Test.YtmkacjpjcfffmaaP2
import Derived.Test.YtmkacjpjcfffmaaP3
import Derived.Test.YtmkacjpjcfffmaaP4
import Derived.Test.YtmkacjpjcfffmaaP6
import Derived.Test.YtmkacjpjcfffmaaP7
import Derived.Test.YtmkacjpjcfffmaaP8
namespace Go.Proofs.Ytmkacjpjcfffmaa
/- Walks: EulerOf, FacesOfSize, FaceCounts in the reference. -/
section
open Go.RowKit

theorem zsElems {w : World} {B : Nat} {v : Value} {fs : List Nat} (h : IntsAt w B v (zs fs)) : ∃ A c, v = .slice A fs.length c ∧ ∀ k, k < fs.length → ∃ b o x, A = some ⟨b, o, none⟩ ∧ fs[k]? = some x ∧ w.cell? ⟨b, o + k, none⟩ = some (.int .i64 ((x : Nat) : Int)) := by
  obtain ⟨A, c, hv, _, he⟩ := form_ h
  have hl : (zs fs).length = fs.length := List.length_map _
  rw [hl] at hv he
  refine ⟨A, c, hv, fun k hk => ?_⟩
  obtain ⟨b, o, x', hA, _, hx, hcell⟩ := he k hk
  obtain ⟨x, rfl, hx'⟩ : ∃ x : Nat, x' = (x : Int) ∧ fs[k]? = some x := by
    rw [show zs fs = fs.map Int.ofNat from rfl, List.getElem?_map] at hx
    cases hfk : fs[k]? with
    | none => rw [hfk] at hx; simp at hx
    | some y => rw [hfk] at hx; simp at hx; exact ⟨y, hx.symm, rfl⟩
  exact ⟨b, o, x, hA, hx', hcell⟩
theorem facesOf_lt (n : Int) (xs : List Int) : ∀ s ∈ facesOf n xs, s < 64 := by
  unfold facesOf
  split
  · exact fun s hs => (mem_listOf.1 hs).1
  · intro s hs; cases hs
theorem eulL_faces (n : Int) (xs : List Int) : eulL (facesOf n xs) = eulerOf n xs := by
  unfold facesOf eulerOf
  split
  · exact eul_eq _ (topOf_bd _)
  · rfl
theorem sized_faces (n : Int) (xs : List Int) (k : Int) : sized k (facesOf n xs) = facesOfSize n xs k := by
  unfold facesOf facesOfSize
  split
  · by_cases h : 0 ≤ k
    · rw [if_pos h]
      obtain ⟨m, rfl⟩ := Int.eq_ofNat_of_zero_le h
      exact sized_listOf _ m
    · rw [if_neg h, sized_neg (by omega)]
  · rfl
theorem cnt_faces (n : Int) (xs : List Int) : cntM (facesOf n xs) (mxL (facesOf n xs)) = faceCounts n xs := by
  unfold facesOf faceCounts
  split
  · exact countsOf_eq _
  · rfl

theorem eulerOfS (n : Int) (v : Value) (xs : List Int) (w : World) (h : IntsAt w w.heap.size v xs) (hl : xs.length ≤ 1073741824) :
    Calls Try.prog 43 #[.agg #[.int .i64 n, v]] w fun e w' => RetN w (eulerOf n xs) e w' := by
  obtain ⟨A, c, rfl⟩ := reads_shape h
  obtain ⟨w1, hW1, at1, b1, z1⟩ := boxC w (.int .i64 n) (.slice A xs.length c) 42
  have R1 := hide (now_ h b1)
  have B1 := hide b1
  have hfin := eulL_faces n xs
  have hmem := facesOf_lt n xs
  have hl448 := facesOf_len n xs
  obtain ⟨e1_0, e1_1⟩ := at1
  clear h b1
  go_enter Try.func43, Try.ntmps43
  go_wp2_with fail
  clear hW1
  refine (facesOfS n _ xs w1 R1.out hl).mono ?_
  rintro e w2 ⟨v2, rfl, o2, b2⟩
  have B2 := hide (nxt B1.out b2)
  obtain ⟨A2, c2, rfl, he⟩ := zsElems (own_reads o2)
  have He := hide he
  have Hmem := hide hmem
  have Hfin := hide hfin
  clear e1_0 e1_1 o2 b2 he hmem hfin
  generalize facesOf n xs = fs at He Hmem Hfin hl448
  go_wp2_with fail
  go_loop [3, 5] (fun a i => ∃ k : Nat, k ≤ fs.length ∧ i = .int .i64 k ∧ a = .int .i64 (eulL (fs.take k))) (fun _ i => fs.length - (intOf i).toNat)
  case atStart => exact ⟨0, by omega, rfl, rfl⟩
  case round =>
    obtain ⟨k, hk, rfl, rfl⟩ := hrel
    by_cases hlt : k < fs.length
    · obtain ⟨b, o, x, rfl, hx, hcell⟩ := He.out k hlt
      have hx64 := Hmem.out x (List.mem_of_getElem? hx)
      have hxb : (x : Int) ≤ 9223372036854775807 := by omega
      have hbd := eulL_bd (fs.take k)
      have hpc := pc_le6 x hx64
      have htk : (fs.take k).length ≤ 448 := by rw [List.length_take]; omega
      have Hs : Hid (eulL (fs.take (k + 1)) = eulL (fs.take k) + 2 * ((pc x : Int) % 2) - 1) := by
        show _ = _
        rw [take_snoc _ _ _ hx, eulL_snoc]
        unfold sgnP
        omega
      clear hx
      go_wp2_with (go_at_call 117; refine (l2SizeS _ _ hxb).mono ?_; rw [Int.toNat_natCast]; rintro e wx ⟨rfl, rfl⟩)
      go_round
      case rel => exact ⟨k + 1, by omega, by go_num, by rw [Hs.out]⟩
      case measure => simp [intOf]; omega
    · have hk2 : fs.length ≤ k := by omega
      have Ht := hide (take_all fs k hk2)
      go_wp2
      go_ret
      exact ⟨ret_int (by rw [Ht.out]; exact Hfin.out), B2.out⟩

theorem facesOfSizeS (n : Int) (v : Value) (xs : List Int) (t : Int) (w : World) (h : IntsAt w w.heap.size v xs) (hl : xs.length ≤ 1073741824) :
    Calls Try.prog 47 #[.agg #[.int .i64 n, v], .int .i64 t] w fun e w' => RetI 3 w (zs (facesOfSize n xs t)) e w' := by
  obtain ⟨A, c, rfl⟩ := reads_shape h
  obtain ⟨w1, hW1, at1, b1, z1⟩ := boxC w (.int .i64 n) (.slice A xs.length c) 42
  have At1 := hide at1
  have R1 := hide (now_ h b1)
  have B1 := hide b1
  have hfin := sized_faces n xs t
  have hmem := facesOf_lt n xs
  have hl448 := facesOf_len n xs
  obtain ⟨e1_0, e1_1⟩ := at1
  clear h b1 z1
  obtain ⟨w2, hW2, ho, hbw⟩ : ∃ W, w1.alloc (.cells #[] 3) = W ∧ OwnV 3 W w1.heap.size (.slice (some ⟨w1.heap.size, 0, none⟩) 0 0) (ints (zs (sized t []))) ∧ Below w1.heap.size w1 W := ⟨_, rfl, own_empty _ _, below_alloc _ _⟩
  have Ho := hide ho
  have Hbw := hide hbw
  have R2 := hide (now_ R1.out hbw)
  obtain ⟨e2_0, e2_1⟩ := At1.out.to hbw
  clear ho hbw
  go_enter Try.func47, Try.ntmps47
  go_wp2_with fail
  clear hW1 hW2
  refine (facesOfS n _ xs w2 R2.out hl).mono ?_
  rintro e w4 ⟨v4, rfl, o4, b4⟩
  obtain ⟨A4, c4, rfl, _⟩ := zsElems (own_reads o4)
  have Hdis : Hid (∀ j, Value.ownBlock (.slice (some ⟨w1.heap.size, 0, none⟩) 0 0) = some j → Value.ownBlock (.slice A4 (facesOf n xs).length c4) ≠ some j) := fun j hj e => by
    have h1 := (own_block Ho.out j hj).2
    have h2 := (own_block o4 j e).1
    omega
  have Hb4 := hide (nxt Hbw.out b4)
  have Ho4 := hide (own_below Ho.out b4)
  have Hf4 := hide o4
  have Hmem := hide hmem
  have Hfin := hide hfin
  clear e1_0 e1_1 e2_0 e2_1 o4 b4 hmem hfin
  generalize facesOf n xs = fs at Hf4 Hmem Hfin hl448 Hdis
  go_wp2_with fail
  go_loopw [5, 7] (fun v i wr => ∃ k : Nat, k ≤ fs.length ∧ i = .int .i64 k ∧ Hid (OwnV 3 wr w1.heap.size v (ints (zs (sized t (fs.take k))))) ∧ Hid (Below w1.heap.size w1 wr) ∧ Hid (OwnV 3 wr w2.heap.size (.slice A4 fs.length c4) (ints (zs fs))) ∧ Hid (∀ j, Value.ownBlock v = some j → Value.ownBlock (.slice A4 fs.length c4) ≠ some j)) (fun _ i _ => fs.length - (intOf i).toNat)
  case atStart => exact ⟨0, by omega, rfl, Ho4, Hb4, Hf4, Hdis⟩
  case round =>
    obtain ⟨k, hk, rfl, hown, hb, hfs, hdis⟩ := hrel
    by_cases hlt : k < fs.length
    · obtain ⟨A5, c5, hv5, he5⟩ := zsElems (own_reads hfs.out)
      cases hv5
      obtain ⟨b, o, x, rfl, hx, hcell⟩ := he5 k hlt
      have hx64 := Hmem.out x (List.mem_of_getElem? hx)
      have hxb : (x : Int) ≤ 9223372036854775807 := by omega
      have Ht := hide (take_snoc _ _ _ hx)
      have hlen : (zs (sized t (fs.take k))).length < 17179869184 := by
        have h1 := sized_len t (fs.take k)
        have h2 := List.length_take_le k fs
        rw [List.length_map]; omega
      have hsz := hb.out.size
      have ho := hown.out
      clear he5 hx
      by_cases hs : (pc x : Int) = t
      · have Hy : Hid (sized t (fs.take (k + 1)) = sized t (fs.take k) ++ [x]) := by show _ = _; rw [Ht.out, sized_yes hs]
        have hq : ((pc x : Int) == t) = true := by rw [beq_iff_eq]; exact hs
        clear hs
        go_wp2_with (first | (at_builtin; refine wpList_appAt ho (x : Int) Try.underlying36 infoI rfl _ _ rfl rfl rfl hlen hsz ?_; intro v' w5 hown5 hb5 hg5 hat5) | (go_at_call 117; refine (l2SizeS _ _ hxb).mono ?_; rw [Int.toNat_natCast]; rintro e wx ⟨rfl, rfl⟩))
        have Hown5 : Hid (OwnV 3 w5 w1.heap.size v' (ints (zs (sized t (fs.take (k + 1)))))) := by show OwnV _ _ _ _ _; rw [Hy.out, zs_snoc]; exact hown5
        have Hb5 : Hid (Below w1.heap.size w1 w5) := hb.out.trans hb5
        have Hfs5 := hide (own_grown hfs.out hg5 (fun j hj e => hdis.out j e hj))
        have Hdis5 : Hid (∀ j, Value.ownBlock v' = some j → Value.ownBlock (.slice (some ⟨b, o, none⟩) fs.length c4) ≠ some j) := by
          intro j hj e
          rcases hat5 with h | h
          · exact hdis.out j (by rw [← h]; exact hj) e
          · have h1 := (own_block hfs.out j e).2
            rw [h] at hj
            have := Option.some.inj hj
            omega
        go_wp2
        go_roundw
        case rel => exact ⟨k + 1, by omega, by go_num, Hown5, Hb5, Hfs5, Hdis5⟩
        case measure => simp [intOf]; omega
      · have Hn : Hid (sized t (fs.take (k + 1)) = sized t (fs.take k)) := by show _ = _; rw [Ht.out, sized_no hs]
        have hq : ((pc x : Int) == t) = false := by rw [beq_eq_false_iff_ne]; exact hs
        clear hs
        go_wp2_with (go_at_call 117; refine (l2SizeS _ _ hxb).mono ?_; rw [Int.toNat_natCast]; rintro e wx ⟨rfl, rfl⟩)
        go_roundw
        case rel => exact ⟨k + 1, by omega, by go_num, by rw [Hn.out]; exact hown, hb, hfs, hdis⟩
        case measure => simp [intOf]; omega
    · have hk2 : fs.length ≤ k := by omega
      have Ht := hide (take_all fs k hk2)
      have ho6 := hown.out
      rw [Ht.out, Hfin.out] at ho6
      have Hown6 := hide ho6
      have HB : Hid (Below w.heap.size w wr) := nxt B1.out hb.out
      clear hown ho6
      go_wp2
      go_ret
      exact ⟨_, rfl, own_mono Hown6.out B1.out.size, HB.out⟩
end

/- Walks: the draws of complexes: l3Pure. -/
section
open Go.RowKit

/-- The sets of one size below k. -/
def pureL (z k : Nat) : List Nat := (List.range k).filter fun s => pc s == z
theorem pureL_yes {z k : Nat} (h : pc k = z) : pureL z (k + 1) = pureL z k ++ [k] := by
  unfold pureL
  rw [List.range_succ, List.filter_append]
  simp [h]
theorem pureL_no {z k : Nat} (h : pc k ≠ z) : pureL z (k + 1) = pureL z k := by
  unfold pureL
  rw [List.range_succ, List.filter_append]
  simp [h]
theorem pureL_len (z k : Nat) : (pureL z k).length ≤ k := by
  have := List.length_filter_le (fun s => pc s == z) (List.range k)
  rw [List.length_range] at this
  exact this
theorem pureL_lt {z k s : Nat} (h : s ∈ pureL z k) : s < k := List.mem_range.1 (List.mem_filter.1 h).1
theorem pureL_some : ((List.range 7).all fun m => (List.range (m + 1)).all fun z => decide (0 < (pureL z (2 ^ m)).length)) = true := by decide +kernel
theorem pureL_pos {m z : Nat} (h : m ≤ 6) (hz : z ≤ m) : 0 < (pureL z (2 ^ m)).length := by
  have := List.all_eq_true.1 pureL_some m (List.mem_range.2 (by omega))
  have := List.all_eq_true.1 this z (List.mem_range.2 (by omega))
  exact of_decide_eq_true this

set_option maxHeartbeats 1600000 in
theorem l3PureS (p : Nat) (v : Value) (L : List UInt8) (m : Nat) (W : World) (hm1 : 1 ≤ m) (hm6 : m ≤ 6) (h : CurAt W p v L) (hL : L.length ≤ 1073741824) :
    Calls Try.prog 168 #[.pointer (some ⟨p, 0, none⟩), .int .i64 (m : Int)] W fun e W' => RetD 900 W p v L e W' := by
  obtain ⟨K, hK2, hK64, hKp, hw⟩ := pow6 hm1 hm6
  have HKp := hide hKp
  clear hKp
  have D0 := hide (Dr.start h 42)
  obtain ⟨w1, hW1⟩ : ∃ X, W.alloc (.cells #[.int .i64 0, .slice none 0 0] 42) = X := ⟨_, rfl⟩
  rw [hW1] at D0
  have Hz : Hid (w1.heap.size = W.heap.size + 1) := by show _ = _; rw [← hW1]; simp
  have hp := h.lt
  clear h
  go_enter Try.func168, Try.ntmps168
  go_wp2_with fail
  clear hW1
  refine (l1BelowS p v L _ w1 D0.out.cur hL (by omega)).mono ?_
  rintro e w2 ⟨r, hr, _, rfl, c2, g2⟩
  have hr6 := hr (by omega)
  have D2 := hide (D0.out.draw c2 g2)
  have hz2 : W.heap.size + 1 ≤ w2.heap.size := by have := Hz.out; have := g2.size; omega
  clear c2 g2 hr D0
  obtain ⟨w3, hW3, ho, hb⟩ : ∃ X, w2.alloc (.cells #[] 3) = X ∧ OwnV 3 X w2.heap.size (.slice (some ⟨w2.heap.size, 0, none⟩) 0 0) (ints (zs (pureL (r + 1) 0))) ∧ Below w2.heap.size w2 X := ⟨_, rfl, own_empty _ _, below_alloc _ _⟩
  have D3 := hide (D2.out.next hb)
  have O3 : Hid (OwnV 3 w3 (W.heap.size + 1) (.slice (some ⟨w2.heap.size, 0, none⟩) 0 0) (ints (zs (pureL (r + 1) 0)))) := own_mono ho hz2
  clear ho hb D2
  go_wp2_with fail
  clear hW3
  go_loopw [6, 7] (fun u i wr => ∃ k : Nat, k ≤ K ∧ i = .int .i64 k ∧ Hid (OwnV 3 wr (W.heap.size + 1) u (ints (zs (pureL (r + 1) k)))) ∧ Hid (Dr W W.heap.size p v L wr)) (fun _ i _ => K - (intOf i).toNat)
  case atStart => exact ⟨0, by omega, rfl, O3, D3⟩
  case round =>
    obtain ⟨k, hk, rfl, ho, hd⟩ := hrel
    have hlen : (zs (pureL (r + 1) k)).length < 17179869184 := by
      have := pureL_len (r + 1) k
      show (List.map _ _).length < _
      rw [List.length_map]
      omega
    by_cases hlt : k < K
    · have hsz : W.heap.size + 1 ≤ wr.heap.size := by have := hd.out.res.lt; omega
      have hc := l2SizeS (k : Int) wr (by omega)
      rw [Int.toNat_natCast] at hc
      have Hc := hide hc
      clear hc
      by_cases hs : pc k = r + 1
      · have hsb : ((pc k : Int) == 1 + (r : Int)) = true := by rw [hs]; simp; omega
        have Hs := hide hs
        clear hs
        go_wp2_with fail
        refine Calls.mono Hc.out ?_
        rintro e w4 ⟨rfl, rfl⟩
        have ho5 := ho.out
        go_wp2_with (at_builtin; refine wpList_appI ho5 (k : Int) Try.underlying36 infoI rfl _ _ rfl rfl rfl hlen hsz ?_; intro v' w6 hown6 hb6 hg6)
        have D6 := hide (hd.out.low hb6 (Nat.lt_succ_self _))
        have O6 : Hid (OwnV 3 w6 (W.heap.size + 1) v' (ints (zs (pureL (r + 1) (k + 1))))) := by
          rw [pureL_yes Hs.out, zs_snoc]
          exact hown6
        go_wp2
        go_roundw
        case rel => exact ⟨k + 1, by omega, by go_num, O6, D6⟩
        case measure => simp [intOf]; omega
      · have hsb : ((pc k : Int) == 1 + (r : Int)) = false := by rw [beq_eq_false_iff_ne]; omega
        have h6 := ho.out
        rw [← pureL_no hs] at h6
        have O6 := hide h6
        clear hs h6
        go_wp2_with fail
        refine Calls.mono Hc.out ?_
        rintro e w4 ⟨rfl, rfl⟩
        go_wp2
        go_roundw
        case rel => exact ⟨k + 1, by omega, by go_num, O6, hd⟩
        case measure => simp [intOf]; omega
    · obtain rfl : k = K := by omega
      obtain ⟨wq, hwq⟩ : ∃ X, X = wr := ⟨_, rfl⟩
      subst hwq
      have hpos : 0 < (pureL (r + 1) k).length := by rw [HKp.out]; exact pureL_pos hm6 (by omega)
      have Hmem : Hid (∀ s ∈ pureL (r + 1) k, s < 64) := fun s hs => by have := pureL_lt hs; omega
      generalize pureL (r + 1) k = ps at *
      have hzl : (zs ps).length = ps.length := List.length_map _
      rw [hzl] at hlen
      have Oa := hide ho.out
      obtain ⟨Aa, ca, rfl⟩ := own_shape ho.out
      clear ho HKp
      obtain ⟨w4, hW4, ho, hb⟩ : ∃ X, wq.alloc (.cells #[] 3) = X ∧ OwnV 3 X wq.heap.size (.slice (some ⟨wq.heap.size, 0, none⟩) 0 0) (ints []) ∧ Below wq.heap.size wq X := ⟨_, rfl, own_empty _ _, below_alloc _ _⟩
      have D4 := hide (hd.out.next hb)
      have Oa4 := hide (own_below Oa.out hb)
      have Lta : Hid (∀ j, Value.ownBlock (.slice Aa (zs ps).length ca) = some j → j < wq.heap.size) := fun j hj => (own_block Oa.out j hj).2
      have hz4 : W.heap.size + 1 ≤ wq.heap.size := by have := hd.out.res.lt; omega
      have Ho4 := hide ho
      have hzw : wq.heap.size ≤ w4.heap.size := hb.size
      clear hb hd Oa ho
      go_wp2_with fail
      clear hW4
      refine (l1BelowS p v L _ w4 D4.out.cur hL (by omega)).mono ?_
      rintro e w5 ⟨q, hq, _, rfl, c5, g5⟩
      have hq7 := hq (by omega)
      have D5 := hide (D4.out.draw c5 g5)
      have Oa5 := hide (own_grown Oa4.out g5 (fun j hj e => by
        have h1 := (own_block Oa4.out j hj).1
        have h2 := Option.some.inj e
        omega))
      have O5 : Hid (∃ xs, SetsK xs 0 ∧ OwnV 3 w5 wq.heap.size (.slice (some ⟨wq.heap.size, 0, none⟩) 0 0) (ints xs)) := ⟨[], ⟨rfl, rfl⟩, own_grown Ho4.out g5 (fun j hj e => by
        have h1 := (own_block Ho4.out j hj).1
        have h2 := Option.some.inj e
        omega)⟩
      have Hzw : Hid (wq.heap.size ≤ w5.heap.size) := Nat.le_trans hzw g5.size
      clear c5 g5 hq D4 Oa4 Ho4 hzw
      go_wp2_with fail
      go_loopw [8, 10] (fun u i wr => ∃ k2 : Nat, k2 ≤ q + 1 ∧ i = .int .i64 k2 ∧ Hid (∃ xs, SetsK xs k2 ∧ OwnV 3 wr wq.heap.size u (ints xs)) ∧ Hid (OwnV 3 wr (W.heap.size + 1) (.slice Aa (zs ps).length ca) (ints (zs ps))) ∧ Hid (Dr W W.heap.size p v L wr) ∧ Hid (wq.heap.size ≤ wr.heap.size)) (fun _ i _ => q + 1 - (intOf i).toNat)
      case atStart => exact ⟨0, by omega, rfl, O5, Oa5, D5, Hzw⟩
      case round =>
        obtain ⟨k2, hk2, rfl, hown, hoa, hd, hzx⟩ := hrel
        obtain ⟨xs, hsm, ho⟩ := hown.out
        have Hsm := hide hsm
        have Ho := hide ho
        clear hsm ho hown
        by_cases hlt2 : k2 < q + 1
        · go_wp2_with fail
          refine (l1BelowS p v L _ wr hd.out.cur hL (by omega)).mono ?_
          rintro e w6 ⟨j, hj, _, rfl, c6, g6⟩
          have hjl := hj (by omega)
          have D6 := hide (hd.out.draw c6 g6)
          have Oa6 := hide (own_grown hoa.out g6 (fun j hj e => by
            have h1 := (own_block hoa.out j hj).1
            have h2 := Option.some.inj e
            omega))
          have Ho6 := hide (own_grown Ho.out g6 (fun j hj e => by
            have h1 := (own_block Ho.out j hj).1
            have h2 := Option.some.inj e
            omega))
          obtain ⟨_, _, hva, hea⟩ := zsElems (own_reads Oa6.out)
          rw [hzl] at hva
          cases hva
          obtain ⟨b, o, s, hA, hs, hcell⟩ := hea j (by omega)
          have hs64 := Hmem.out s (List.mem_of_getElem? hs)
          cases hA
          have hlen : xs.length < 17179869184 := by have := Hsm.out.1; omega
          have hsz : wq.heap.size ≤ w6.heap.size := by exact Nat.le_trans hzx.out g6.size
          have ho6 := Ho6.out
          clear c6 g6 hj hea hs
          go_wp2_with (at_builtin; refine wpList_appI ho6 (s : Int) Try.underlying36 infoI rfl _ _ rfl rfl rfl hlen hsz ?_; intro v' w7 hown7 hb7 hg7)
          have D7 := hide (D6.out.low hb7 (by omega))
          have O7 : Hid (∃ ys, SetsK ys (k2 + 1) ∧ OwnV 3 w7 wq.heap.size v' (ints ys)) := ⟨_, Hsm.out.snoc (by omega) (by omega), hown7⟩
          have Oa7 := hide (own_grown Oa6.out hg7 (fun j hj e => by
            have h1 := Lta.out j hj
            have h2 := (own_block ho6 j e).1
            omega))
          have Hz7 : Hid (wq.heap.size ≤ w7.heap.size) := Nat.le_trans hsz hb7.size
          go_wp2
          go_roundw
          case rel => exact ⟨k2 + 1, by omega, by go_num, O7, Oa7, D7, Hz7⟩
          case measure => simp [intOf]; omega
        · have hxl : xs.length ≤ 1073741824 := by have := Hsm.out.1; omega
          go_wp2_with fail
          refine (l3MakeS _ _ xs wr (own_reads Ho.out) hxl Hsm.out.2).mono ?_
          rintro e w4 ⟨v', rfl, o4, b4⟩
          have D4 := hide (hd.out.next b4)
          have O4 : Hid (OwnV 3 w4 (W.heap.size + 1) v' (ints (zs (maxOf (inList xs))))) := own_mono o4 (by have := hd.out.res.lt; omega)
          obtain ⟨A', c', rfl⟩ := own_shape o4
          obtain ⟨⟨q0, q1, hq0, hq1⟩, f0, f1⟩ := D4.out.res
          have hr := D4.out.res.lt
          clear b4 o4
          go_wp2
          refine bodyPost_ret (v := .agg #[.int .i64 m, .slice A' (zs (maxOf (inList xs))).length c']) (by simp [results, Try.results168, go_sem, hq0, hq1]) rfl ?_
          exact D4.out.done O4.out (few_max hm6 _) _ _
end

/- Walks: parseHead in the program. -/
section
open Go.RowKit

def headRest (l : List UInt8) : List UInt8 := if headB l then l.drop 2 else []
def headNum (l : List UInt8) : Int := if headB l then headN l else 0
def PHead (w : World) (l : List UInt8) (e : Ending) (w' : World) : Prop := e = .returned (.tuple #[.int .i64 (headNum l), .string ⟨(headRest l).toArray⟩, .bool (headB l)]) ∧ Below w.heap.size w w'
theorem pHead_no {w w' : World} {l : List UInt8} (h : headB l = false) (hb : Below w.heap.size w w') : PHead w l (.returned (.tuple #[.int .i64 0, .string ⟨#[]⟩, .bool false])) w' := by
  unfold PHead headNum headRest
  rw [h]
  exact ⟨rfl, hb⟩
theorem headB_cons {c d : UInt8} {r : List UInt8} : headB (c :: d :: r) = decide (49 ≤ c.toNat ∧ c.toNat ≤ 54 ∧ d = 58) := rfl
theorem parseHeadI (l : List UInt8) (w : World) (hl : l.length ≤ 1073741824) :
    Calls Try.prog 108 #[.string ⟨l.toArray⟩] w fun e w' => PHead w l e w' := by
  by_cases hlen : 2 ≤ l.length
  · match l, hlen with
    | c :: d :: r, hlen =>
      have hll : (c :: d :: r : List UInt8).length = r.length + 2 := rfl
      obtain ⟨hk0, hg0⟩ := bget (c :: d :: r) 0 c rfl
      obtain ⟨hk1, hg1⟩ := bget (c :: d :: r) 1 d rfl
      by_cases h1 : 49 ≤ c.toNat
      · by_cases h2 : c.toNat ≤ 54
        · by_cases h3 : d = 58
          · subst h3
            have Hh : Hid (headB (c :: 58 :: r) = true) := by show _ = _; rw [headB_cons]; exact decide_eq_true ⟨h1, h2, rfl⟩
            have hx : (⟨(c :: 58 :: r).toArray⟩ : ByteArray).extract 2 (r.length + 2) = ⟨r.toArray⟩ := by
              rw [cut_eq33]
              simp
            have hsub : IntKind.u8.wrap ((c.toNat : Int) - 48) = (c.toNat : Int) - 48 := IntWalk.u8_in _ (by omega)
            go_enter Try.func108, Try.ntmps108
            go_wp2
            go_quiet (fail)
            go_wp2
            refine bodyPost_ret (v := .tuple #[.int .i64 ((c.toNat : Int) - 48), .string ⟨r.toArray⟩, .bool true]) (by simp [results, Try.results108, go_sem]) rfl ?_
            unfold PHead headNum headRest
            rw [Hh.out]
            exact ⟨rfl, below_drewN (Below.refl _ _) _⟩
          · have Hh : Hid (headB (c :: d :: r) = false) := by show _ = _; rw [headB_cons]; exact decide_eq_false (fun h => h3 h.2.2)
            have hd : ((d.toNat : Int) == 58) = false := by
              rw [beq_eq_false_iff_ne]
              intro e
              have h5 : d.toNat = 58 := by omega
              have h6 : UInt8.ofNat d.toNat = UInt8.ofNat 58 := by rw [h5]
              exact h3 (by simpa using h6)
            have hd2 : ((d.toNat : Int) != 58) = true := by rw [bne, hd]; rfl
            clear h3 hd
            go_enter Try.func108, Try.ntmps108
            go_wp2
            refine bodyPost_ret (v := .tuple #[.int .i64 0, .string ⟨#[]⟩, .bool false]) (by simp [results, Try.results108, go_sem]) rfl ?_
            exact pHead_no Hh.out (Below.refl _ _)
        · have Hh : Hid (headB (c :: d :: r) = false) := by show _ = _; rw [headB_cons]; exact decide_eq_false (fun h => h2 h.2.1)
          have h2' : 54 < c.toNat := by omega
          clear h2
          go_enter Try.func108, Try.ntmps108
          go_wp2
          refine bodyPost_ret (v := .tuple #[.int .i64 0, .string ⟨#[]⟩, .bool false]) (by simp [results, Try.results108, go_sem]) rfl ?_
          exact pHead_no Hh.out (Below.refl _ _)
      · have Hh : Hid (headB (c :: d :: r) = false) := by show _ = _; rw [headB_cons]; exact decide_eq_false (fun h => h1 h.1)
        have h1' : c.toNat < 49 := by omega
        clear h1
        go_enter Try.func108, Try.ntmps108
        go_wp2
        refine bodyPost_ret (v := .tuple #[.int .i64 0, .string ⟨#[]⟩, .bool false]) (by simp [results, Try.results108, go_sem]) rfl ?_
        exact pHead_no Hh.out (Below.refl _ _)
  · have Hh : Hid (headB l = false) := by
      show _ = _
      match l, hlen with
      | [], _ => rfl
      | [c], _ => rfl
      | c :: d :: r, hlen => exact absurd (by simp) hlen
    have h2 : l.length < 2 := by omega
    clear hlen
    go_enter Try.func108, Try.ntmps108
    go_wp2
    refine bodyPost_ret (v := .tuple #[.int .i64 0, .string ⟨#[]⟩, .bool false]) (by simp [results, Try.results108, go_sem]) rfl ?_
    exact pHead_no Hh.out (Below.refl _ _)
end

/- Walks: ParseSet, in the program and in the reference. -/
section
open Go.RowKit

theorem or_pow (s j : Nat) (h : s < 2 ^ j) : s ||| 2 ^ j = s + 2 ^ j := by
  rw [Nat.or_comm, Nat.add_comm]
  have := Nat.two_pow_add_eq_or_of_lt h 1
  simpa using this.symm
theorem or_step (s j : Nat) (h : s < 2 ^ j) (hj : j ≤ 5) : bits .or .i64 (s : Int) (wrap64 (2 ^ j)) = ((s + 2 ^ j : Nat) : Int) := by
  have hp : 2 ^ j ≤ 32 := Nat.pow_le_pow_right (n := 2) (by omega) hj
  have e : wrap64 (2 ^ j) = ((2 ^ j : Nat) : Int) := by
    have : ((2 : Int) ^ j) = ((2 ^ j : Nat) : Int) := by simp
    rw [this]
    exact IntWalk.wrap64_in _ (by omega)
  rw [e, i64_or s (2 ^ j) (by omega) (by omega), or_pow s j h]
theorem pow_le32 {j : Nat} (h : j ≤ 5) : 2 ^ j ≤ 32 := Nat.pow_le_pow_right (n := 2) (by omega) h

/-- The tuple that ParseSet returns. -/
def PSet (l : List UInt8) (e : Ending) : Prop := e = .returned (.tuple #[.int .i64 ((parseSet l).1 : Int), .bool (parseSet l).2])
theorem PSet_mk {l : List UInt8} {n : Int} {m : Nat} {b : Bool} (h : parseSet l = (m, b)) (hn : n = (m : Int)) : PSet l (.returned (.tuple #[.int .i64 n, .bool b])) := by
  unfold PSet
  rw [h, hn]

theorem parseSetI (l : List UInt8) (w : World) (hs : l.length ≤ 9223372036854775807) :
    Calls Try.prog 80 #[.string ⟨l.toArray⟩] w fun e w' => PSet l e ∧ Below w.heap.size w w' := by
  by_cases hd : l = [45]
  · subst hd
    go_enter Try.func80, Try.ntmps80
    go_wp2
    go_ret2
    exact ⟨PSet_mk parseSet_dash rfl, Below.refl _ _⟩
  · have hq : (l == [45]) = false := by simpa using hd
    by_cases hn : l = []
    · subst hn
      go_enter Try.func80, Try.ntmps80
      go_wp2
      go_ret2
      exact ⟨PSet_mk (m := 0) rfl rfl, Below.refl _ _⟩
    · have hl0 : ((l.length : Int) == 0) = false := by
        have : l.length ≠ 0 := fun h => hn (List.eq_nil_of_length_eq_zero h)
        simp; omega
      have Hd := hide hd
      have Hn := hide hn
      clear hd
      by_cases hl : 6 < l.length
      · have H := hide (parseSet_none l (parseTo_long l hl) Hd.out)
        go_enter Try.func80, Try.ntmps80
        go_wp2
        go_ret2
        exact ⟨PSet_mk H.out rfl, Below.refl _ _⟩
      · have hl6 : l.length ≤ 6 := by omega
        go_enter Try.func80, Try.ntmps80
        go_wp2
        go_loopw [4, 5] (fun t i wr => ∃ (k s n : Nat), k ≤ l.length ∧ i = .int .i64 k ∧ t = .int .i64 s ∧ Hid (parseTo (l.take k) = some s) ∧ wr = w.drewN n) (fun _ i _ => l.length - (intOf i).toNat)
        case atStart => exact ⟨0, 0, 0, by omega, rfl, rfl, rfl, rfl⟩
        case round =>
          obtain ⟨k, s, n, hk, rfl, rfl, hp, rfl⟩ := hrel
          by_cases hlt : k < l.length
          · obtain ⟨c, hc⟩ : ∃ c, l[k]? = some c := ⟨_, List.getElem?_eq_getElem hlt⟩
            have hts := hide (take_snoc l k c hc)
            obtain ⟨hk1, hgl⟩ := bget l k c hc
            clear hc
            have hsl := (parseTo_lt _ _ hp.out).1
            by_cases c1 : 97 ≤ c.toNat
            · by_cases c2 : c.toNat ≤ 102
              · by_cases c3 : s < 2 ^ (c.toNat - 97)
                · have Hn' : Hid (parseTo (l.take (k + 1)) = some (s + 2 ^ (c.toNat - 97))) := by
                    rw [hts.out, parseTo_snoc, hp.out]; simp [stepSet, c1, c2, c3, Hid]
                  have Hor := hide (or_step s _ c3 (by omega))
                  by_cases k0 : 0 < k
                  · obtain ⟨d, hd1⟩ : ∃ d, l[k - 1]? = some d := ⟨_, List.getElem?_eq_getElem (by omega)⟩
                    have htk := take_snoc l (k - 1) d hd1
                    rw [show k - 1 + 1 = k from by omega] at htk
                    obtain ⟨d1, d2, d3, d4⟩ := parseTo_last (l.take (k - 1)) d s (by rw [← htk]; exact hp.out)
                    clear htk
                    obtain ⟨hk2, hgd⟩ := bget l (k - 1) d hd1
                    clear hd1
                    have hcd : d.toNat < c.toNat := by
                      rcases Nat.lt_or_ge d.toNat c.toNat with h | h
                      · exact h
                      · have := Nat.pow_le_pow_right (n := 2) (by omega) (show c.toNat - 97 ≤ d.toNat - 97 by omega)
                        omega
                    clear d3 d4
                    go_wp2
                    go_quiet (fail)
                    go_wp2
                    go_roundw
                    case rel =>
                      refine ⟨_, s + 2 ^ (c.toNat - 97), _, ?_, ?_, ?_, Hn', rfl⟩
                      · omega
                      · go_num
                      · rw [Hor.out]
                    case measure => simp [intOf]; omega
                  · obtain rfl : k = 0 := by omega
                    go_wp2
                    go_quiet (fail)
                    go_wp2
                    go_roundw
                    case rel =>
                      refine ⟨_, s + 2 ^ (c.toNat - 97), _, ?_, ?_, ?_, Hn', rfl⟩
                      · omega
                      · go_num
                      · rw [Hor.out]
                    case measure => simp [intOf]; omega
                · have H := hide (parseSet_none l (parseTo_take_none l (k + 1) (by rw [hts.out, parseTo_snoc, hp.out]; simp [stepSet, c3])) Hd.out)
                  have k0 : 0 < k := by
                    rcases Nat.eq_zero_or_pos k with h | h
                    · subst h
                      have := hp.out
                      rw [List.take_zero] at this
                      cases this
                      exact absurd (Nat.pow_pos (by omega)) c3
                    · exact h
                  obtain ⟨d, hd1⟩ : ∃ d, l[k - 1]? = some d := ⟨_, List.getElem?_eq_getElem (by omega)⟩
                  have htk := take_snoc l (k - 1) d hd1
                  rw [show k - 1 + 1 = k from by omega] at htk
                  obtain ⟨d1, d2, d3, d4⟩ := parseTo_last (l.take (k - 1)) d s (by rw [← htk]; exact hp.out)
                  clear htk
                  obtain ⟨hk2, hgd⟩ := bget l (k - 1) d hd1
                  clear hd1
                  have hcd : c.toNat ≤ d.toNat := by
                    rcases Nat.lt_or_ge d.toNat c.toNat with h | h
                    · have := Nat.pow_le_pow_right (n := 2) (by omega) (show d.toNat - 97 + 1 ≤ c.toNat - 97 by omega)
                      omega
                    · exact h
                  clear d3 d4 c3
                  go_wp2
                  go_quiet (fail)
                  go_wp2
                  go_ret2
                  exact ⟨PSet_mk H.out rfl, below_drewN (below_drewN (Below.refl _ _) _) _⟩
              · have H := hide (parseSet_none l (parseTo_take_none l (k + 1) (by rw [hts.out, parseTo_snoc, hp.out]; simp [stepSet, c2])) Hd.out)
                go_wp2
                go_ret2
                exact ⟨PSet_mk H.out rfl, below_drewN (Below.refl _ _) _⟩
            · have H := hide (parseSet_none l (parseTo_take_none l (k + 1) (by rw [hts.out, parseTo_snoc, hp.out]; simp [stepSet, c1])) Hd.out)
              go_wp2
              go_ret2
              exact ⟨PSet_mk H.out rfl, below_drewN (Below.refl _ _) _⟩
          · have hkl : k = l.length := by omega
            have H := hide (parseSet_some l s (by have := hp.out; rwa [hkl, List.take_length] at this) Hd.out)
            have Hb : Hid ((!l.isEmpty) = true) := by
              have := Hn.out
              cases l <;> simp_all [Hid]
            clear hkl
            go_wp2
            go_ret2
            refine ⟨PSet_mk (b := true) (by rw [H.out, Hb.out]) rfl, below_drewN (Below.refl _ _) _⟩

theorem shr_zero (s j : Nat) (h : s < 2 ^ j) : (((s : Int) / 2 ^ j) != 0) = false := by
  have e : ((s : Int) / 2 ^ j) = ((s / 2 ^ j : Nat) : Int) := by simp
  rw [e, Nat.div_eq_of_lt h]
  rfl
theorem shr_pos (s j : Nat) (h : ¬ s < 2 ^ j) : (((s : Int) / 2 ^ j) != 0) = true := by
  have e : ((s : Int) / 2 ^ j) = ((s / 2 ^ j : Nat) : Int) := by simp
  have : 0 < s / 2 ^ j := Nat.div_pos (by omega) (Nat.pow_pos (by omega))
  rw [e]
  simp
  omega
theorem add_step (s j : Nat) (hs : s < 64) (hj : j ≤ 5) : wrap64 ((s : Int) + wrap64 (2 ^ j)) = ((s + 2 ^ j : Nat) : Int) := by
  have hp : 2 ^ j ≤ 32 := Nat.pow_le_pow_right (n := 2) (by omega) hj
  have e : ((2 : Int) ^ j) = ((2 ^ j : Nat) : Int) := by simp
  rw [e]
  generalize 2 ^ j = q at hp
  rw [IntWalk.wrap64_in (q : Int) (by omega), IntWalk.wrap64_in _ (by omega)]
  omega

theorem parseSetS (l : List UInt8) (w : World) (hs : l.length ≤ 9223372036854775807) :
    Calls Try.prog 81 #[.string ⟨l.toArray⟩] w fun e w' => PSet l e ∧ Below w.heap.size w w' := by
  by_cases hd : l = [45]
  · subst hd
    go_enter Try.func81, Try.ntmps81
    go_wp2
    refine wp_loop_rounds 1 ?_
    rw [rounds_succ]
    go_wp2
    go_ret2
    exact ⟨PSet_mk parseSet_dash rfl, Below.refl _ _⟩
  · have hq : (l == [45]) = false := by simpa using hd
    have Hd := hide hd
    clear hd
    go_enter Try.func81, Try.ntmps81
    go_wp2
    go_loopw [4, 5] (fun t i wr => ∃ (k s n : Nat), k ≤ l.length ∧ i = .int .i64 k ∧ t = .int .i64 s ∧ Hid (parseTo (l.take k) = some s) ∧ wr = w.drewN n) (fun _ i _ => l.length - (intOf i).toNat)
    case atStart => exact ⟨0, 0, 0, by omega, rfl, rfl, rfl, rfl⟩
    case round =>
      obtain ⟨k, s, n, hk, rfl, rfl, hp, rfl⟩ := hrel
      by_cases hlt : k < l.length
      · obtain ⟨c, hc⟩ : ∃ c, l[k]? = some c := ⟨_, List.getElem?_eq_getElem hlt⟩
        have hts := hide (take_snoc l k c hc)
        obtain ⟨hk1, hgl⟩ := bget l k c hc
        clear hc
        have hsl := (parseTo_lt _ _ hp.out).1
        by_cases c1 : 97 ≤ c.toNat ∧ c.toNat ≤ 102
        · obtain ⟨j, hj⟩ : ∃ j, c.toNat = j + 97 := ⟨c.toNat - 97, by omega⟩
          have hj5 : j ≤ 5 := by omega
          have hin := inB_mk (x := (j : Int)) (lo := 0) (hi := 5) ⟨by omega, by omega⟩
          by_cases c3 : s < 2 ^ j
          · have Hn' : Hid (parseTo (l.take (k + 1)) = some (s + 2 ^ j)) := by
              rw [hts.out, parseTo_snoc, hp.out]
              have e : c.toNat - 97 = j := by omega
              simp [stepSet, c1, e, c3, Hid]
            have hz := shr_zero s j c3
            have Ha := hide (add_step s j hsl hj5)
            clear c1 c3
            go_wp2_with (go_at_call 120; refine (l1InS _ _ _ _).mono ?_; rintro e w' ⟨rfl, rfl⟩)
            go_roundw
            case rel => exact ⟨k + 1, s + 2 ^ j, _, by omega, by go_num, by rw [Ha.out], Hn', rfl⟩
            case measure => simp [intOf]; omega
          · have H := hide (parseSet_none l (parseTo_take_none l (k + 1) (by
              rw [hts.out, parseTo_snoc, hp.out]
              have e : c.toNat - 97 = j := by omega
              simp [stepSet, e, c3])) Hd.out)
            have hz := shr_pos s j c3
            clear c1 c3
            go_wp2_with (go_at_call 120; refine (l1InS _ _ _ _).mono ?_; rintro e w' ⟨rfl, rfl⟩)
            go_ret2
            exact ⟨PSet_mk H.out rfl, below_drewN (Below.refl _ _) _⟩
        · have H := hide (parseSet_none l (parseTo_take_none l (k + 1) (by
              rw [hts.out, parseTo_snoc, hp.out]
              have : ¬ (97 ≤ c.toNat ∧ c.toNat ≤ 102 ∧ s < 2 ^ (c.toNat - 97)) := fun h => c1 ⟨h.1, h.2.1⟩
              simp only [Option.bind_some, stepSet, if_neg this])) Hd.out)
          have hin := inB_no (x := (c.toNat : Int) - 97) (lo := 0) (hi := 5) (by omega)
          have hc5 : c.toNat < 256 := c.toNat_lt
          clear c1
          go_wp2_with (go_at_call 120; refine (l1InS _ _ _ _).mono ?_; rintro e w' ⟨rfl, rfl⟩)
          go_ret2
          exact ⟨PSet_mk H.out rfl, below_drewN (Below.refl _ _) _⟩
      · have hkl : k = l.length := by omega
        have H := hide (parseSet_some l s (by have := hp.out; rwa [hkl, List.take_length] at this) Hd.out)
        clear hkl
        by_cases hn : l = []
        · subst hn
          go_wp2
          go_ret2
          exact ⟨PSet_mk H.out rfl, below_drewN (Below.refl _ _) _⟩
        · have Hb : Hid ((!l.isEmpty) = true) := by cases l <;> simp_all [Hid]
          have he : l.isEmpty = false := by cases l <;> simp_all
          go_wp2
          go_ret2
          exact ⟨PSet_mk (b := true) (by rw [H.out, Hb.out]) rfl, below_drewN (Below.refl _ _) _⟩

theorem parseSetI2 (l : List UInt8) (w : World) (hs : l.length ≤ 9223372036854775807) : Calls Try.prog 80 #[.string ⟨l.toArray⟩] w fun e w' => RetNB w ((parseSet l).1 : Int) (parseSet l).2 e w' := parseSetI l w hs
theorem parseSetS2 (l : List UInt8) (w : World) (hs : l.length ≤ 9223372036854775807) : Calls Try.prog 81 #[.string ⟨l.toArray⟩] w fun e w' => RetNB w ((parseSet l).1 : Int) (parseSet l).2 e w' := parseSetS l w hs
end

/- Walks: ParseComplex in the program. -/
section
open Go.RowKit

def setsTo (ps : List (List UInt8)) (k : Nat) : List Int := (ps.take k).map fun p => ((parseSet p).1 : Int)
theorem setsTo_snoc {ps : List (List UInt8)} {k : Nat} {p : List UInt8} (h : ps[k]? = some p) : setsTo ps (k + 1) = setsTo ps k ++ [((parseSet p).1 : Int)] := by
  unfold setsTo
  rw [take_snoc _ _ _ h, List.map_append]
  rfl
theorem setsTo_all {ps : List (List UInt8)} {k : Nat} (h : ps.length ≤ k) : setsTo ps k = ps.map fun p => ((parseSet p).1 : Int) := by
  unfold setsTo
  rw [take_all _ _ h]
theorem setsTo_len (ps : List (List UInt8)) (k : Nat) : (setsTo ps k).length ≤ ps.length := by
  unfold setsTo
  rw [List.length_map, List.length_take]
  omega
theorem setsOk_bad {r : List UInt8} {k : Nat} {p : List UInt8} (hr : r ≠ []) (h : (splitB 44 r)[k]? = some p) (hp : (parseSet p).2 = false) : setsOk r = false := by
  unfold setsOk
  have h1 : r.isEmpty = false := by
    cases r with
    | nil => exact absurd rfl hr
    | cons _ _ => rfl
  rw [h1, Bool.false_or]
  exact List.all_eq_false.2 ⟨p, List.mem_of_getElem? h, by simp [hp]⟩
theorem setsOk_good {r : List UInt8} (h : ∀ (k : Nat) p, (splitB 44 r)[k]? = some p → (parseSet p).2 = true) : setsOk r = true := by
  unfold setsOk
  rw [Bool.or_eq_true]
  refine .inr (List.all_eq_true.2 fun p hp => ?_)
  obtain ⟨j, hj, hje⟩ := List.mem_iff_getElem.1 hp
  exact h j p (List.getElem?_eq_some_iff.2 ⟨hj, hje⟩)
theorem setsXs_ne {r : List UInt8} (hr : r ≠ []) : setsXs r = (splitB 44 r).map fun p => ((parseSet p).1 : Int) := by
  unfold setsXs
  cases r with
  | nil => exact absurd rfl hr
  | cons _ _ => rfl
theorem retCB_pno {w w' : World} {l : List UInt8} (h : pcxOk l = false) (hb : Below w.heap.size w w') : RetCB 3 w (pcxN l) (pcxXs l) (pcxOk l) (.returned (.tuple #[.agg #[.int .i64 0, .slice none 0 0], .bool false])) w' := by
  unfold pcxN pcxXs
  rw [h]
  exact ⟨_, rfl, own_nil _ _, hb⟩
theorem retCB_pyes {w w' : World} {l : List UInt8} {n : Int} {xs : List Int} (h : pcxOk l = true) (hn : headN l = n) (hx : setsXs (l.drop 2) = xs) {v : Value} (ho : OwnV 3 w' w.heap.size v (ints xs)) (hb : Below w.heap.size w w') : RetCB 3 w (pcxN l) (pcxXs l) (pcxOk l) (.returned (.tuple #[.agg #[.int .i64 n, v], .bool true])) w' := by
  unfold pcxN pcxXs
  rw [h, hn, hx]
  exact ⟨_, rfl, ho, hb⟩
/-- What the loop keeps: the box g of the complex under way, its list v, the parts. -/
structure Under7 (w0 W : World) (g : Nat) (n : Int) (xs : List Int) (pv : Value) (ps : List (List UInt8)) (v : Value) : Prop where
  box : AtC W g (.int .i64 n) v
  res : Res g W
  own : OwnV 3 W (g + 1) v (ints xs)
  parts : OwnV 9 W (g + 1) pv (strsV ps)
  apart : ∀ j, v.ownBlock = some j → pv.ownBlock ≠ some j
  below : Below g w0 W
theorem Res.grown {r : Nat} {W W' : World} {row : Option Nat} (h : Res r W) (hg : W.grownBy W' row) (hne : row ≠ some r) : Res r W' := by
  have hl := h.lt
  obtain ⟨⟨u0, u1, h0, h1⟩, f0, f1⟩ := h
  refine ⟨⟨u0, u1, hg.cell h0 (fun e => hne e.symm), hg.cell h1 (fun e => hne e.symm)⟩, ?_, ?_⟩
  · exact (World.frozen?_of_block (a := ⟨r, 0, none⟩) (w := W) (hg.block r hl (fun e => hne e.symm))).trans f0
  · exact (World.frozen?_of_block (a := ⟨r, 1, none⟩) (w := W) (hg.block r hl (fun e => hne e.symm))).trans f1
theorem own_shape56 {e : TypeId} {w : World} {B : Nat} {v : Value} {xs : List Int} (h : OwnV e w B v (ints xs)) : ∃ A n c, v = .slice A n c := by
  obtain ⟨A, c, hv, _⟩ := form_ (own_reads h)
  exact ⟨A, _, c, hv⟩
theorem Under7.to {w0 W W' : World} {g : Nat} {n : Int} {xs : List Int} {pv v : Value} {ps : List (List UInt8)} (h : Under7 w0 W g n xs pv ps v) (k : Below W.heap.size W W') : Under7 w0 W' g n xs pv ps v :=
  ⟨h.box.to k, h.res.to k, own_below h.own k, own_below h.parts k, h.apart, h.below.trans (k.mono (Nat.le_of_lt h.res.lt))⟩
/-- One set more: 'c.Facets = append(c.Facets, s)'. -/
theorem Under7.step {w0 W W' : World} {g : Nat} {n y : Int} {xs : List Int} {pv v v' : Value} {ps : List (List UInt8)} (h : Under7 w0 W g n xs pv ps v)
    (h1 : OwnV 3 W' (g + 1) v' (ints (xs ++ [y]))) (hg : W.grownBy W' v.ownBlock) (hat : v'.ownBlock = v.ownBlock ∨ v'.ownBlock = some (W.heap.size + 1)) :
    AtC W' g (.int .i64 n) v ∧ Res g W' ∧ Under7 w0 (W'.setCell ⟨g, 1, none⟩ v') g n (xs ++ [y]) pv ps v' := by
  have hne : v.ownBlock ≠ some g := fun e => by have := (own_block h.own g e).1; omega
  have hne' : ∀ j, v'.ownBlock = some j → g ≠ j := fun j hj => by have := (own_block h1 j hj).1; omega
  have hnp : ∀ j, pv.ownBlock = some j → g ≠ j := fun j hj => by have := (own_block h.parts j hj).1; omega
  have hb : AtC W' g (.int .i64 n) v := h.box.grown hg hne
  have hr : Res g W' := Res.grown h.res hg hne
  have hB : g ≤ W.heap.size := Nat.le_of_lt h.res.lt
  have hbW : Below g w0 W' := h.below.trans (grown_below hg hB (fun k hk => Nat.le_of_lt (own_block h.own k hk).1))
  refine ⟨hb, hr, ⟨?_, ?_, own_setNe h1 hne' _ _, own_setNe (own_grown h.parts hg (fun j hj e => h.apart j e hj)) hnp _ _, ?_, hbW.setCell (Nat.le_refl _) _⟩⟩
  · refine ⟨?_, ?_⟩
    · simp [go_sem, hb.1]
    · simp [go_sem, hb.2]
  · obtain ⟨⟨u0, u1, c0, c1⟩, f0, f1⟩ := hr
    refine ⟨⟨u0, v', ?_, ?_⟩, ?_, ?_⟩
    · simp [go_sem, c0]
    · simp [go_sem, c1]
    · simp [go_sem, f0]
    · simp [go_sem, f1]
  · intro j hj e
    rcases hat with h2 | h2
    · exact h.apart j (by rw [← h2]; exact hj) e
    · rw [h2] at hj
      have := Option.some.inj hj
      have := (own_block h.parts j e).2
      omega
end
end Go.Proofs.Ytmkacjpjcfffmaa
