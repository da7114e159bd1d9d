/- Walks: FaceCounts in the reference. -/
import Derived.Test.YtmkacjpjcfffmabW40
namespace Go.Proofs.Ytmkacjpjcfffmab
open Go.RowKit

def slLen : Value → Nat
  | .slice _ n _ => n
  | _ => 0
theorem faceCountsS (n : Int) (v : Value) (xs : List Int) (w : World) (h : IntsAt w w.heap.size v xs) (hl : xs.length ≤ 1073741824) :
    Calls Try.prog 22 #[.agg #[.int .i64 n, v]] w fun e w' => RetI 3 w (faceCounts n xs) e w' := by
  obtain ⟨A, c, rfl⟩ := reads_shape h
  obtain ⟨w1, hW1, at1, b1, z1⟩ := boxC w (.int .i64 n) (.slice A xs.length c) 27
  have At1 := hide at1
  have R1 := hide (now_ h b1)
  have B1 := hide b1
  have hfin := cnt_faces n xs
  have hmem := facesOf_lt n xs
  have hl448 := facesOf_len n xs
  obtain ⟨e1_0, e1_1⟩ := at1
  clear h b1 z1
  obtain ⟨w2, hW2, ho, hbw⟩ : ∃ W, w1.alloc (.cells #[] 3) = W ∧ OwnV 3 W w1.heap.size (.slice (some ⟨w1.heap.size, 0, none⟩) 0 0) (ints (cntM [] (mxL []))) ∧ Below w1.heap.size w1 W := ⟨_, rfl, own_empty _ _, below_alloc _ _⟩
  have Ho := hide ho
  have Hbw := hide hbw
  have R2 := hide (now_ R1.out hbw)
  obtain ⟨e2_0, e2_1⟩ := At1.out.to hbw
  clear ho hbw
  go_enter Try.func22, Try.ntmps22
  go_wp2_with fail
  clear hW1 hW2
  refine (facesOfS n _ xs w2 R2.out hl).mono ?_
  rintro e w4 ⟨v4, rfl, o4, b4⟩
  obtain ⟨A4, c4, rfl, he4⟩ := zsElems (own_reads o4)
  clear he4
  have Hdis : Hid (∀ j, Value.ownBlock (.slice (some ⟨w1.heap.size, 0, none⟩) 0 0) = some j → Value.ownBlock (.slice A4 (facesOf n xs).length c4) ≠ some j) := fun j hj e => by
    have h1 := (own_block Ho.out j hj).2
    have h2 := (own_block o4 j e).1
    omega
  have Hb4 := hide (nxt Hbw.out b4)
  have Ho4 := hide (own_below Ho.out b4)
  have Hf4 := hide o4
  have Hmem := hide hmem
  have Hfin := hide hfin
  clear e1_0 e1_1 e2_0 e2_1 o4 b4 hmem hfin
  generalize facesOf n xs = fs at Hf4 Hmem Hfin hl448 Hdis
  go_wp2_with fail
  go_loopw [3, 5] (fun v i wr => ∃ k : Nat, k ≤ fs.length ∧ i = .int .i64 k ∧ Hid (OwnV 3 wr w1.heap.size v (ints (cntM (fs.take k) (mxL (fs.take k))))) ∧ Hid (Below w1.heap.size w1 wr) ∧ Hid (OwnV 3 wr w2.heap.size (.slice A4 fs.length c4) (ints (zs fs))) ∧ Hid (∀ j, Value.ownBlock v = some j → Value.ownBlock (.slice A4 fs.length c4) ≠ some j)) (fun _ i _ => fs.length - (intOf i).toNat)
  case atStart => exact ⟨0, by omega, rfl, Ho4, Hb4, Hf4, Hdis⟩
  case round =>
    obtain ⟨k, hk, rfl, hown, hb, hfs, hdis⟩ := hrel
    by_cases hlt : k < fs.length
    · obtain ⟨A5, c5, hv5, he5⟩ := zsElems (own_reads hfs.out)
      cases hv5
      obtain ⟨b, o, x, rfl, hx, hcell⟩ := he5 k hlt
      have hx64 := Hmem.out x (List.mem_of_getElem? hx)
      have hpc := pc_le6 x hx64
      have hxb : (x : Int) ≤ 9223372036854775807 := by omega
      have Ht := hide (take_snoc _ _ _ hx)
      have Hx := hide hx
      have hmx : mxL (fs.take k) ≤ 7 := mxL_le fun s hs => Hmem.out s (List.mem_of_mem_take hs)
      clear he5 hx
      go_wp2
      go_loopw [3] (fun v wi => ∃ m : Nat, mxL (fs.take k) ≤ m ∧ m ≤ max (mxL (fs.take k)) (pc x + 1) ∧ Hid (OwnV 3 wi w1.heap.size v (ints (cntM (fs.take k) m))) ∧ Hid (Below w1.heap.size w1 wi) ∧ Hid (OwnV 3 wi w2.heap.size (.slice (some ⟨b, o, none⟩) fs.length c4) (ints (zs fs))) ∧ Hid (∀ j, Value.ownBlock v = some j → Value.ownBlock (.slice (some ⟨b, o, none⟩) fs.length c4) ≠ some j)) (fun v _ => 8 - slLen v)
      case atStart => exact ⟨mxL (fs.take k), by omega, by omega, hown, hb, hfs, hdis⟩
      case round =>
        obtain ⟨m, hm1, hm2, hown2, hb2, hfs2, hdis2⟩ := hrel
        obtain ⟨Av, cv, hv⟩ := own_shape hown2.out
        rw [cntM_len] at hv
        subst hv
        obtain ⟨A6, c6, hv6, he6⟩ := zsElems (own_reads hfs2.out)
        cases hv6
        obtain ⟨b', o', x', hA6, hx6, hcell6⟩ := he6 k hlt
        cases hA6
        rw [Hx.out] at hx6
        cases hx6
        have hlt2 : ∀ s ∈ fs.take k, pc s < m := fun s hs => Nat.lt_of_lt_of_le (mxL_lt _ s hs) hm1
        by_cases hle : m ≤ pc x
        · have Hmore := hide (cntM_more hlt2)
          have hlen : (cntM (fs.take k) m).length < 17179869184 := by rw [cntM_len]; omega
          have hsz := hb2.out.size
          have ho2 := hown2.out
          have hdm : decide ((m : Int) ≤ (pc x : Int)) = true := decide_eq_true (by omega)
          go_wp2_with (first | (at_builtin; refine wpList_appAt ho2 (0 : Int) Try.underlying22 infoI rfl _ _ rfl rfl rfl hlen hsz ?_; intro v' w5 hown5 hb5 hg5 hat5) | (go_at_call 37; refine (l2SizeS _ _ hxb).mono ?_; rw [Int.toNat_natCast]; rintro e wx ⟨rfl, rfl⟩))
          have Hown5 : Hid (OwnV 3 w5 w1.heap.size v' (ints (cntM (fs.take k) (m + 1)))) := by show OwnV _ _ _ _ _; rw [Hmore.out]; exact hown5
          have Hb5 : Hid (Below w1.heap.size w1 w5) := hb2.out.trans hb5
          have Hfs5 := hide (own_grown hfs2.out hg5 (fun j hj e => hdis2.out j e hj))
          have Hdis5 : Hid (∀ j, Value.ownBlock v' = some j → Value.ownBlock (.slice (some ⟨b, o, none⟩) fs.length c4) ≠ some j) := by
            intro j hj e
            rcases hat5 with h | h
            · exact hdis2.out j (by rw [← h]; exact hj) e
            · have h1 := (own_block hfs2.out j e).2
              rw [h] at hj
              have := Option.some.inj hj
              omega
          obtain ⟨A7, c7, hv7⟩ := own_shape Hown5.out
          rw [cntM_len] at hv7
          subst hv7
          go_wp2
          go_roundw
          case rel => exact ⟨m + 1, by omega, by omega, Hown5, Hb5, Hfs5, Hdis5⟩
          case measure => simp [slLen]; omega
        · have hdm : decide ((m : Int) ≤ (pc x : Int)) = false := decide_eq_false (by omega)
          have hmm : Hid (m = mxL (fs.take (k + 1))) := by show _ = _; rw [Ht.out, mxL_snoc]; omega
          have hpm : pc x < m := by omega
          rcases own_form hown2.out with ⟨_, h0⟩ | ⟨g, cap, hv, hg1, hg2, hcap⟩
          · have := congrArg List.length h0
            rw [ints_length, cntM_len] at this
            simp at this
            omega
          rw [ints_length, cntM_len] at hv
          cases hv
          have hv' : (Value.slice (some ⟨g, 0, none⟩) m cv) = .slice (some ⟨g, 0, none⟩) (ints (cntM (fs.take k) m)).length cv := by rw [ints_length, cntM_len]
          have hgx : (ints (cntM (fs.take k) m))[pc x]? = some (.int .i64 ((sized (pc x : Int) (fs.take k)).length : Int)) := by
            show (List.map _ _)[pc x]? = _
            rw [List.getElem?_map, cntM_get _ hpm]
            rfl
          obtain ⟨hcg, hfg⟩ := own_cell hown2.out hv' hgx
          have hset := own_set hown2.out hv' (pc x) (.int .i64 (((sized (pc x : Int) (fs.take k)).length : Int) + 1))
          have hsl : (sized (pc x : Int) (fs.take k)).length ≤ 448 := Nat.le_trans (sized_len _ _) (by rw [List.length_take]; omega)
          have hse : (ints (cntM (fs.take k) m)).set (pc x) (.int .i64 (((sized (pc x : Int) (fs.take k)).length : Int) + 1)) = ints (cntM (fs.take (k + 1)) (mxL (fs.take (k + 1)))) := by
            rw [← hmm.out, Ht.out, ← cntM_set hpm]
            exact (List.map_set).symm
          rw [hse] at hset
          have Hset := hide hset
          have Hfs := hide (own_setNe hfs2.out (b := g) (fun j hj e => hdis2.out g rfl (by rw [hj, e])) (pc x) (.int .i64 (((sized (pc x : Int) (fs.take k)).length : Int) + 1)))
          have Hbb : Hid (Below w1.heap.size w1 (wr.setCell ⟨g, pc x, none⟩ (.int .i64 (((sized (pc x : Int) (fs.take k)).length : Int) + 1)))) := hb2.out.setCell (by exact hg1) _
          clear hv' hgx hset hcap hse
          go_wp2_with (go_at_call 37; refine (l2SizeS _ _ hxb).mono ?_; rw [Int.toNat_natCast]; rintro e wx ⟨rfl, rfl⟩)
          go_still_tail 16, (by kernel_rfl)
          refine wpStill_step (fun K hK => ?_)
          go_simp
          refine ⟨_, (l2SizeS _ _ hxb).mono (by rintro e w' ⟨rfl, rfl⟩; exact ⟨by rw [Int.toNat_natCast], rfl⟩), hK _ ?_⟩
          clear hK K
          repeat still_step
          refine wpStill_step (fun K hK => ?_)
          go_simp
          refine ⟨_, (l2SizeS _ _ hxb).mono (by rintro e w' ⟨rfl, rfl⟩; exact ⟨by rw [Int.toNat_natCast], rfl⟩), hK _ ?_⟩
          clear hK K
          repeat still_step
          refine wpStill_nil ?_
          change wpList _ _ _ _ _ wr.drew
          go_wp2
          go_roundw
          case rel => exact ⟨k + 1, by omega, by go_num, Hset, Hbb.out.drew, Hfs, hdis2⟩
          case measure => simp [intOf]; omega
    · have hk2 : fs.length ≤ k := by omega
      have Ht := hide (take_all fs k hk2)
      have ho6 := hown.out
      rw [Ht.out, Hfin.out] at ho6
      have Hown6 := hide ho6
      have HB : Hid (Below w.heap.size w wr) := nxt B1.out hb.out
      clear hown ho6
      go_wp2
      go_ret
      exact ⟨_, rfl, own_mono Hown6.out B1.out.size, HB.out⟩
end Go.Proofs.Ytmkacjpjcfffmab
