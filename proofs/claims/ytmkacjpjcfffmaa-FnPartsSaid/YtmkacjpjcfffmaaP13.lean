/- Texts of one kind, laid together (7 of them). -/
import Derived.ProofKit
import Derived.OpenShut
import Derived.ShutString
import Derived.ChangeOld
import Derived.Lib.SmallJoins
import Derived.SliceStrings
import Derived.Test.YtmkacjpjcfffmaaP1
import Derived.Test.YtmkacjpjcfffmaaP2
import Derived.Test.YtmkacjpjcfffmaaP5
import Derived.Test.YtmkacjpjcfffmaaP6
import Derived.Test.YtmkacjpjcfffmaaP7
import Derived.Test.YtmkacjpjcfffmaaP8
import Derived.Test.YtmkacjpjcfffmaaP9
import Derived.Test.YtmkacjpjcfffmaaP12
namespace Go.Proofs.Ytmkacjpjcfffmaa
/- Walks: OrderSets, MaximalSets, MinimalSets, SubsetsOf in the reference. -/
section
open Go.RowKit

theorem orderSetsS (v : Value) (xs : List Int) (w : World) (h : IntsAt w w.heap.size v xs) (hl : xs.length ≤ 1073741824) : Calls Try.prog 91 #[v] w fun e w' => RetI 3 w (zs (orderOf xs)) e w' := by
  cases ha : allSets xs
  · rw [orderOf_no ha]
    have Ha := hide ha
    clear ha
    go_enter Try.func91, Try.ntmps91
    go_wp2_with fail
    refine (l2FineS v xs w h hl).mono ?_
    rw [Ha.out]
    rintro e w' ⟨rfl, rfl⟩
    go_wp2
    go_ret
    exact ⟨_, rfl, own_empty _ _, below_alloc _ _⟩
  · rw [orderOf_yes ha]
    have Ha := hide ha
    clear ha
    go_enter Try.func91, Try.ntmps91
    go_wp2_with fail
    refine (l2FineS v xs w h hl).mono ?_
    rw [Ha.out]
    rintro e w' ⟨rfl, rfl⟩
    go_wp2_with fail
    refine (l2OrderS v xs w h hl Ha.out).mono ?_
    rintro e w1 ⟨u, rfl, hu, hb⟩
    go_wp2
    go_ret
    exact ⟨_, rfl, hu, hb⟩
theorem maximalSetsS (v : Value) (xs : List Int) (w : World) (h : IntsAt w w.heap.size v xs) (hl : xs.length ≤ 1073741824) : Calls Try.prog 88 #[v] w fun e w' => RetI 3 w (zs (maxSets xs)) e w' := by
  cases ha : allSets xs
  · rw [maxSets_no ha]
    have Ha := hide ha
    clear ha
    go_enter Try.func88, Try.ntmps88
    go_wp2_with fail
    refine (l2FineS v xs w h hl).mono ?_
    rw [Ha.out]
    rintro e w' ⟨rfl, rfl⟩
    go_wp2
    go_ret
    exact ⟨_, rfl, own_empty _ _, below_alloc _ _⟩
  · rw [maxSets_yes ha]
    have Ha := hide ha
    clear ha
    go_enter Try.func88, Try.ntmps88
    go_wp2_with fail
    refine (l2FineS v xs w h hl).mono ?_
    rw [Ha.out]
    rintro e w' ⟨rfl, rfl⟩
    go_wp2_with fail
    refine (l2ExtremeS true v xs w h hl Ha.out).mono ?_
    rintro e w1 ⟨u, rfl, hu, hb⟩
    go_wp2
    go_ret
    exact ⟨_, rfl, hu, hb⟩
theorem minimalSetsS (v : Value) (xs : List Int) (w : World) (h : IntsAt w w.heap.size v xs) (hl : xs.length ≤ 1073741824) : Calls Try.prog 89 #[v] w fun e w' => RetI 3 w (zs (minSets xs)) e w' := by
  cases ha : allSets xs
  · rw [minSets_no ha]
    have Ha := hide ha
    clear ha
    go_enter Try.func89, Try.ntmps89
    go_wp2_with fail
    refine (l2FineS v xs w h hl).mono ?_
    rw [Ha.out]
    rintro e w' ⟨rfl, rfl⟩
    go_wp2
    go_ret
    exact ⟨_, rfl, own_empty _ _, below_alloc _ _⟩
  · rw [minSets_yes ha]
    have Ha := hide ha
    clear ha
    go_enter Try.func89, Try.ntmps89
    go_wp2_with fail
    refine (l2FineS v xs w h hl).mono ?_
    rw [Ha.out]
    rintro e w' ⟨rfl, rfl⟩
    go_wp2_with fail
    refine (l2ExtremeS false v xs w h hl Ha.out).mono ?_
    rintro e w1 ⟨u, rfl, hu, hb⟩
    go_wp2
    go_ret
    exact ⟨_, rfl, hu, hb⟩
theorem subTo_all (m : Nat) : allSets (zs ((List.range 64).filter fun t => sub t m)) = true := by
  apply List.all_eq_true.2
  intro x hx
  simp only [zs, List.mem_map, List.mem_filter, List.mem_range] at hx
  obtain ⟨n, ⟨hn, _⟩, rfl⟩ := hx
  exact decide_eq_true ⟨by omega, by omega⟩
theorem subTo_in (m s : Nat) (hs : s < 64) : inList (zs ((List.range 64).filter fun t => sub t m)) s = sub s m := by
  unfold inList
  rw [Bool.eq_iff_iff]
  simp only [List.contains_eq_mem, decide_eq_true_eq, zs, List.mem_map, List.mem_filter, List.mem_range]
  constructor
  · rintro ⟨n, ⟨_, h⟩, e⟩
    have : n = s := by omega
    subst this
    exact h
  · intro h
    exact ⟨s, ⟨hs, h⟩, rfl⟩
def subTo (m k : Nat) : List Nat := (List.range k).filter fun t => sub t m
theorem subTo_yes {m k : Nat} (h : sub k m = true) : subTo m (k + 1) = subTo m k ++ [k] := by simp [subTo, List.range_succ, h]
theorem subTo_no {m k : Nat} (h : sub k m = false) : subTo m (k + 1) = subTo m k := by simp [subTo, List.range_succ, h]
theorem subTo_len (m k : Nat) : (subTo m k).length ≤ k := by
  have := List.length_filter_le (fun t => sub t m) (List.range k)
  simpa [subTo] using this
theorem listOf_nil : listOf (inList []) = [] := by decide +kernel

theorem subsetsOfS (s : Int) (w : World) : Calls Try.prog 98 #[.int .i64 s] w fun e w' => RetI 3 w (zs (subsetsOf s)) e w' := by
  by_cases hs : 0 ≤ s ∧ s < 64
  · have h1 : inB s 0 63 = true := inB_mk ⟨hs.1, by omega⟩
    obtain ⟨m, rfl⟩ := Int.eq_ofNat_of_zero_le hs.1
    have hm : m < 64 := by omega
    rw [subsetsOf_yes hm]
    have Hr := hide (show listOf (fun t => sub t m) = listOf (inList (zs (subTo m 64))) from listOf_congr (fun s hs => (subTo_in m s hs).symm))
    have Hall : Hid (allSets (zs (subTo m 64)) = true) := subTo_all m
    clear hs
    go_enter Try.func98, Try.ntmps98
    go_wp2
    go_loopw [3, 4] (fun v i wr => ∃ k : Nat, k ≤ 64 ∧ i = .int .i64 k ∧ OwnV 3 wr w.heap.size v (ints (zs (subTo m k))) ∧ Below w.heap.size w wr) (fun _ i _ => 64 - (intOf i).toNat)
    case atStart => exact ⟨0, by omega, rfl, own_empty _ _, below_alloc _ _⟩
    case round =>
      obtain ⟨k, hk, rfl, hown, hb⟩ := hrel
      have hml := subTo_len m k
      by_cases hlt : k < 64
      · have hab := (and_bit hlt hm).1
        cases hsub : sub k m
        · rw [hsub] at hab
          have Hn := hide (subTo_no hsub)
          clear hsub
          go_wp2_with (go_at_call 120; refine (l1InS _ _ _ _).mono ?_; rintro e w' ⟨rfl, rfl⟩)
          go_roundw
          case rel => exact ⟨k + 1, by omega, by go_num, by rw [Hn.out]; exact hown, hb⟩
          case measure => simp [intOf]; omega
        · rw [hsub] at hab
          have Hn := hide (subTo_yes hsub)
          have hoL : (zs (subTo m k)).length < 17179869184 := by simp; omega
          clear hsub
          go_wp2_with (first | (go_at_call 120; refine (l1InS _ _ _ _).mono ?_; rintro e w' ⟨rfl, rfl⟩) | (at_builtin; refine wpList_appI hown k Try.underlying36 infoI rfl _ _ rfl rfl rfl hoL hb.size ?_; intro v' w2 hown1 hb1 _))
          go_roundw
          case rel => exact ⟨k + 1, by omega, by go_num, by rw [Hn.out, zs_snoc]; exact hown1, hb.trans hb1⟩
          case measure => simp [intOf]; omega
      · obtain rfl : k = 64 := by omega
        have Hb := hide hb
        have Hown := hide hown
        clear hb hown
        go_wp2_with (first | (go_at_call 120; refine (l1InS _ _ _ _).mono ?_; rintro e w' ⟨rfl, rfl⟩) | fail)
        refine (l2OrderS _ _ _ (own_reads Hown.out) (by rw [List.length_map]; omega) Hall.out).mono ?_
        rintro e w1 ⟨u, rfl, hu, hb1⟩
        go_wp2
        go_ret
        exact ⟨_, rfl, by rw [Hr.out]; exact own_mono hu Hb.out.size, below_step Hb.out hb1 Hb.out.size⟩
  · have h1 : inB s 0 63 = false := inB_no (fun h => hs ⟨h.1, by omega⟩)
    rw [subsetsOf_no hs]
    clear hs
    have Hn := hide listOf_nil
    go_enter Try.func98, Try.ntmps98
    go_wp2
    refine wp_loop_rounds 1 ?_
    rw [rounds_succ]
    go_wp2_with (first | (go_at_call 120; refine (l1InS _ _ _ _).mono ?_; rintro e w' ⟨rfl, rfl⟩) | fail)
    refine (l2OrderS _ [] _ (own_reads (own_empty 3 w)) (by simp) rfl).mono ?_
    rintro e w1 ⟨u, rfl, hu, hb1⟩
    rw [Hn.out] at hu
    go_wp2
    go_ret
    exact ⟨_, rfl, own_mono hu (by (try simp only [World.size_alloc]); omega), nxt (below_alloc _ _) hb1⟩
end

/- Plain laws for FnSets. -/
section
open Go.RowKit

theorem nowB_ {W w' : World} {v : Value} {L : List UInt8} (h : BytesAt W W.heap.size v L) (c : Below W.heap.size W w') : BytesAt w' w'.heap.size v L := ReadsV.on h c (Nat.le_refl _) (Nat.le_refl _)
theorem parse_txt_all : ((List.range 64).all fun s => parseSet (setTxt s) == (s, true)) = true := by decide +kernel
theorem parse_txt {s : Nat} (h : s < 64) : parseSet (setTxtOf (s : Int)) = (s, true) := by
  rw [setTxtOf_yes h]
  have := List.all_eq_true.1 parse_txt_all s (List.mem_range.2 h)
  simpa using this
theorem parse_txt_no {s : Int} (h : ¬ (0 ≤ s ∧ s < 64)) : parseSet (setTxtOf s) = (0, false) := by
  rw [setTxtOf_no h]
  rfl
theorem subs_all : ((List.range 64).all fun s => (listOf (fun t => sub t s)).length == 2 ^ pc s) = true := by decide +kernel
theorem subs_len {s : Nat} (h : s < 64) : (subsetsOf (s : Int)).length = 2 ^ pc s := by
  rw [subsetsOf_yes h]
  have := List.all_eq_true.1 subs_all s (List.mem_range.2 h)
  simpa using this
theorem zsl (l : List Nat) : (zs l).length = l.length := List.length_map _
/-- No set of the list lies over a greatest one. -/
theorem max_over {xs : List Int} {m : Nat} {x : Int} (h : m ∈ maxSets xs) (hx : x ∈ xs) : m < 64 ∧ ∃ X : Nat, x = (X : Int) ∧ X < 64 ∧ (X = m ∨ sub m X = false) := by
  unfold maxSets at h
  split at h
  · rename_i ha
    obtain ⟨h0, h1⟩ := allSets_at ha hx
    obtain ⟨X, rfl⟩ := Int.eq_ofNat_of_zero_le h0
    unfold maxOf maxL at h
    obtain ⟨h2, h3⟩ := List.mem_filter.1 h
    have hm := (mem_listOf.1 h2).1
    refine ⟨hm, X, rfl, by omega, ?_⟩
    cases hs : sub m X
    · exact .inr rfl
    · exact .inl (keepMax_iff.1 h3 X (by omega) (List.contains_iff_mem.2 hx) hs)
  · cases h
theorem over_bits {m X : Nat} (hm : m < 64) (hX : X < 64) (h : sub m X = false) : (bits BinOp.and IntKind.i64 (m : Int) (X : Int) == (m : Int)) = false := by
  rw [i64_and m X (by omega) (by omega), beq_eq_false_iff_ne]
  intro e
  have e2 : m &&& X = m := Int.ofNat.inj e
  have : sub m X = true := sub_iff.2 e2
  rw [this] at h
  cases h
theorem ptsOf_len6 (s : Int) : (ptsOf s).length ≤ 1048576 := by
  by_cases h : 0 ≤ s ∧ s < 64
  · obtain ⟨m, rfl⟩ := Int.eq_ofNat_of_zero_le h.1
    rw [ptsOf_yes (by omega)]
    have := pts_len m 6
    omega
  · rw [ptsOf_no h]
    simp
theorem asI {P : Program} {f : FuncId} {args : Array Value} {w : World} {T : TypeId} {xs y : List Int} (h : Calls P f args w fun e w' => RetI T w xs e w') (e : y = xs) : Calls P f args w fun e w' => RetI T w y e w' := by
  subst e
  exact h
end

/- Walks: FaceCounts in the reference. -/
section
open Go.RowKit

def slLen : Value → Nat
  | .slice _ n _ => n
  | _ => 0
set_option maxRecDepth 100000 in
theorem faceCountsS (n : Int) (v : Value) (xs : List Int) (w : World) (h : IntsAt w w.heap.size v xs) (hl : xs.length ≤ 1073741824) :
    Calls Try.prog 39 #[.agg #[.int .i64 n, v]] w fun e w' => RetI 3 w (faceCounts n xs) e w' := by
  obtain ⟨A, c, rfl⟩ := reads_shape h
  obtain ⟨w1, hW1, at1, b1, z1⟩ := boxC w (.int .i64 n) (.slice A xs.length c) 42
  have At1 := hide at1
  have R1 := hide (now_ h b1)
  have B1 := hide b1
  have hfin := cnt_faces n xs
  have hmem := facesOf_lt n xs
  have hl448 := facesOf_len n xs
  obtain ⟨e1_0, e1_1⟩ := at1
  clear h b1 z1
  obtain ⟨w2, hW2, ho, hbw⟩ : ∃ W, w1.alloc (.cells #[] 3) = W ∧ OwnV 3 W w1.heap.size (.slice (some ⟨w1.heap.size, 0, none⟩) 0 0) (ints (cntM [] (mxL []))) ∧ Below w1.heap.size w1 W := ⟨_, rfl, own_empty _ _, below_alloc _ _⟩
  have Ho := hide ho
  have Hbw := hide hbw
  have R2 := hide (now_ R1.out hbw)
  obtain ⟨e2_0, e2_1⟩ := At1.out.to hbw
  clear ho hbw
  go_enter Try.func39, Try.ntmps39
  go_wp2_with fail
  clear hW1 hW2
  refine (facesOfS n _ xs w2 R2.out hl).mono ?_
  rintro e w4 ⟨v4, rfl, o4, b4⟩
  obtain ⟨A4, c4, rfl, he4⟩ := zsElems (own_reads o4)
  clear he4
  have Hdis : Hid (∀ j, Value.ownBlock (.slice (some ⟨w1.heap.size, 0, none⟩) 0 0) = some j → Value.ownBlock (.slice A4 (facesOf n xs).length c4) ≠ some j) := fun j hj e => by
    have h1 := (own_block Ho.out j hj).2
    have h2 := (own_block o4 j e).1
    omega
  have Hb4 := hide (nxt Hbw.out b4)
  have Ho4 := hide (own_below Ho.out b4)
  have Hf4 := hide o4
  have Hmem := hide hmem
  have Hfin := hide hfin
  clear e1_0 e1_1 e2_0 e2_1 o4 b4 hmem hfin
  generalize facesOf n xs = fs at Hf4 Hmem Hfin hl448 Hdis
  go_wp2_with fail
  go_loopw [3, 5] (fun v i wr => ∃ k : Nat, k ≤ fs.length ∧ i = .int .i64 k ∧ Hid (OwnV 3 wr w1.heap.size v (ints (cntM (fs.take k) (mxL (fs.take k))))) ∧ Hid (Below w1.heap.size w1 wr) ∧ Hid (OwnV 3 wr w2.heap.size (.slice A4 fs.length c4) (ints (zs fs))) ∧ Hid (∀ j, Value.ownBlock v = some j → Value.ownBlock (.slice A4 fs.length c4) ≠ some j)) (fun _ i _ => fs.length - (intOf i).toNat)
  case atStart => exact ⟨0, by omega, rfl, Ho4, Hb4, Hf4, Hdis⟩
  case round =>
    obtain ⟨k, hk, rfl, hown, hb, hfs, hdis⟩ := hrel
    by_cases hlt : k < fs.length
    · obtain ⟨A5, c5, hv5, he5⟩ := zsElems (own_reads hfs.out)
      cases hv5
      obtain ⟨b, o, x, rfl, hx, hcell⟩ := he5 k hlt
      have hx64 := Hmem.out x (List.mem_of_getElem? hx)
      have hpc := pc_le6 x hx64
      have hxb : (x : Int) ≤ 9223372036854775807 := by omega
      have Ht := hide (take_snoc _ _ _ hx)
      have Hx := hide hx
      have hmx : mxL (fs.take k) ≤ 7 := mxL_le fun s hs => Hmem.out s (List.mem_of_mem_take hs)
      clear he5 hx
      go_wp2
      go_loopw [3] (fun v wi => ∃ m : Nat, mxL (fs.take k) ≤ m ∧ m ≤ max (mxL (fs.take k)) (pc x + 1) ∧ Hid (OwnV 3 wi w1.heap.size v (ints (cntM (fs.take k) m))) ∧ Hid (Below w1.heap.size w1 wi) ∧ Hid (OwnV 3 wi w2.heap.size (.slice (some ⟨b, o, none⟩) fs.length c4) (ints (zs fs))) ∧ Hid (∀ j, Value.ownBlock v = some j → Value.ownBlock (.slice (some ⟨b, o, none⟩) fs.length c4) ≠ some j)) (fun v _ => 8 - slLen v)
      case atStart => exact ⟨mxL (fs.take k), by omega, by omega, hown, hb, hfs, hdis⟩
      case round =>
        obtain ⟨m, hm1, hm2, hown2, hb2, hfs2, hdis2⟩ := hrel
        obtain ⟨Av, cv, hv⟩ := own_shape hown2.out
        rw [cntM_len] at hv
        subst hv
        obtain ⟨A6, c6, hv6, he6⟩ := zsElems (own_reads hfs2.out)
        cases hv6
        obtain ⟨b', o', x', hA6, hx6, hcell6⟩ := he6 k hlt
        cases hA6
        rw [Hx.out] at hx6
        cases hx6
        have hlt2 : ∀ s ∈ fs.take k, pc s < m := fun s hs => Nat.lt_of_lt_of_le (mxL_lt _ s hs) hm1
        by_cases hle : m ≤ pc x
        · have Hmore := hide (cntM_more hlt2)
          have hlen : (cntM (fs.take k) m).length < 17179869184 := by rw [cntM_len]; omega
          have hsz := hb2.out.size
          have ho2 := hown2.out
          have hdm : decide ((m : Int) ≤ (pc x : Int)) = true := decide_eq_true (by omega)
          go_wp2_with (first | (at_builtin; refine wpList_appAt ho2 (0 : Int) Try.underlying36 infoI rfl _ _ rfl rfl rfl hlen hsz ?_; intro v' w5 hown5 hb5 hg5 hat5) | (go_at_call 117; refine (l2SizeS _ _ hxb).mono ?_; rw [Int.toNat_natCast]; rintro e wx ⟨rfl, rfl⟩))
          have Hown5 : Hid (OwnV 3 w5 w1.heap.size v' (ints (cntM (fs.take k) (m + 1)))) := by show OwnV _ _ _ _ _; rw [Hmore.out]; exact hown5
          have Hb5 : Hid (Below w1.heap.size w1 w5) := hb2.out.trans hb5
          have Hfs5 := hide (own_grown hfs2.out hg5 (fun j hj e => hdis2.out j e hj))
          have Hdis5 : Hid (∀ j, Value.ownBlock v' = some j → Value.ownBlock (.slice (some ⟨b, o, none⟩) fs.length c4) ≠ some j) := by
            intro j hj e
            rcases hat5 with h | h
            · exact hdis2.out j (by rw [← h]; exact hj) e
            · have h1 := (own_block hfs2.out j e).2
              rw [h] at hj
              have := Option.some.inj hj
              omega
          obtain ⟨A7, c7, hv7⟩ := own_shape Hown5.out
          rw [cntM_len] at hv7
          subst hv7
          go_wp2
          go_roundw
          case rel => exact ⟨m + 1, by omega, by omega, Hown5, Hb5, Hfs5, Hdis5⟩
          case measure => simp [slLen]; omega
        · have hdm : decide ((m : Int) ≤ (pc x : Int)) = false := decide_eq_false (by omega)
          have hmm : Hid (m = mxL (fs.take (k + 1))) := by show _ = _; rw [Ht.out, mxL_snoc]; omega
          have hpm : pc x < m := by omega
          rcases own_form hown2.out with ⟨_, h0⟩ | ⟨g, cap, hv, hg1, hg2, hcap⟩
          · have := congrArg List.length h0
            rw [ints_length, cntM_len] at this
            simp at this
            omega
          rw [ints_length, cntM_len] at hv
          cases hv
          have hv' : (Value.slice (some ⟨g, 0, none⟩) m cv) = .slice (some ⟨g, 0, none⟩) (ints (cntM (fs.take k) m)).length cv := by rw [ints_length, cntM_len]
          have hgx : (ints (cntM (fs.take k) m))[pc x]? = some (.int .i64 ((sized (pc x : Int) (fs.take k)).length : Int)) := by
            show (List.map _ _)[pc x]? = _
            rw [List.getElem?_map, cntM_get _ hpm]
            rfl
          obtain ⟨hcg, hfg⟩ := own_cell hown2.out hv' hgx
          have hset := own_set hown2.out hv' (pc x) (.int .i64 (((sized (pc x : Int) (fs.take k)).length : Int) + 1))
          have hsl : (sized (pc x : Int) (fs.take k)).length ≤ 448 := Nat.le_trans (sized_len _ _) (by rw [List.length_take]; omega)
          have hse : (ints (cntM (fs.take k) m)).set (pc x) (.int .i64 (((sized (pc x : Int) (fs.take k)).length : Int) + 1)) = ints (cntM (fs.take (k + 1)) (mxL (fs.take (k + 1)))) := by
            rw [← hmm.out, Ht.out, ← cntM_set hpm]
            exact (List.map_set).symm
          rw [hse] at hset
          have Hset := hide hset
          have Hfs := hide (own_setNe hfs2.out (b := g) (fun j hj e => hdis2.out g rfl (by rw [hj, e])) (pc x) (.int .i64 (((sized (pc x : Int) (fs.take k)).length : Int) + 1)))
          have Hbb : Hid (Below w1.heap.size w1 (wr.setCell ⟨g, pc x, none⟩ (.int .i64 (((sized (pc x : Int) (fs.take k)).length : Int) + 1)))) := hb2.out.setCell (by exact hg1) _
          clear hv' hgx hset hcap hse
          go_wp2_with (go_at_call 117; refine (l2SizeS _ _ hxb).mono ?_; rw [Int.toNat_natCast]; rintro e wx ⟨rfl, rfl⟩)
          go_still_tail 16, (by kernel_rfl)
          refine wpStill_step (fun K hK => ?_)
          go_simp
          refine ⟨_, (l2SizeS _ _ hxb).mono (by rintro e w' ⟨rfl, rfl⟩; exact ⟨by rw [Int.toNat_natCast], rfl⟩), hK _ ?_⟩
          clear hK K
          repeat still_step
          refine wpStill_step (fun K hK => ?_)
          go_simp
          refine ⟨_, (l2SizeS _ _ hxb).mono (by rintro e w' ⟨rfl, rfl⟩; exact ⟨by rw [Int.toNat_natCast], rfl⟩), hK _ ?_⟩
          clear hK K
          repeat still_step
          refine wpStill_nil ?_
          change wpList _ _ _ _ _ wr.drew
          go_wp2
          go_roundw
          case rel => exact ⟨k + 1, by omega, by go_num, Hset, Hbb.out.drew, Hfs, hdis2⟩
          case measure => simp [intOf]; omega
    · have hk2 : fs.length ≤ k := by omega
      have Ht := hide (take_all fs k hk2)
      have ho6 := hown.out
      rw [Ht.out, Hfin.out] at ho6
      have Hown6 := hide ho6
      have HB : Hid (Below w.heap.size w wr) := nxt B1.out hb.out
      clear hown ho6
      go_wp2
      go_ret
      exact ⟨_, rfl, own_mono Hown6.out B1.out.size, HB.out⟩
end

/- Walks: bySize, FacesOfSize, countBySize, FaceCounts, EulerOf in the program. -/
section
open Go.RowKit

theorem infoSl : (Try.prog.info? 36).map (fun i => (i.zero, i.size, i.bytes)) = some (some (.slice none 0 0), 1, 24) := by kernel_rfl
theorem own_shape3 {e : TypeId} {w : World} {B : Nat} {v : Value} {xs : List Int} (h : OwnV e w B v (ints xs)) : ∃ A n c, v = .slice A n c := by
  obtain ⟨A, c, hv, _⟩ := form_ (own_reads h)
  exact ⟨A, _, c, hv⟩
theorem topOf_nat (P : Nat → Bool) : ∃ m : Nat, topOf P = (m : Int) - 1 ∧ m ≤ 7 ∧ m = (topOf P + 1).toNat := by
  obtain ⟨h1, h2⟩ := topOf_bd P
  exact ⟨(topOf P + 1).toNat, by omega, by omega, rfl⟩
theorem facesOfSize_len (n : Int) (xs : List Int) (t : Int) : (facesOfSize n xs t).length ≤ 64 := by
  unfold facesOfSize
  split
  · split
    · exact layer_len _ _
    · simp
  · simp

set_option maxRecDepth 100000 in
theorem bySizeI (P : Nat → Bool) (m : Nat) (hm : topOf P = (m : Int) - 1) (hm7 : m ≤ 7) (w : World) :
    Calls Try.prog 119 #[.int .u64 (fam P : Int)] w fun e w' => RetRows 36 3 w m (layer P) e w' := by
  have hF := fam_lt P
  have hpcm : ∀ s, s < 64 → P s = true → pc s < m := by
    intro s hs hp
    have h1 := (topTo_spec P 64).1 s hs hp
    have h2 : topTo P 64 = (m : Int) - 1 := hm
    omega
  have Hpcm := hide hpcm
  have Hm := hide hm
  clear hpcm hm
  go_enter Try.func119, Try.ntmps119
  go_wp2_with (first | (go_at_call 118; refine (topSizeI P _).mono ?_; rw [Hm.out]; rintro e wx ⟨rfl, rfl⟩) | (at_make; refine wpList_makeV (.slice none 0 0) 24 m Try.underlying82 infoSl rfl (by decide) (by omega) rfl _ _ rfl rfl rfl ?_; intro w1 hown1 hb1))
  have Rw0 : Hid (∃ V, RowsOf 36 3 w1 w.heap.size w.heap.size m V (fun j => layTo P j 0)) := ⟨_, (RowsOf.start hown1).congr fun j _ => rfl⟩
  have Hb1 := hide hb1
  clear hown1 hb1
  go_loopw [4, 5] (fun i _ wr => ∃ k : Nat, k ≤ 64 ∧ i = .int .i64 k ∧ Hid (∃ V, RowsOf 36 3 wr w.heap.size w.heap.size m V (fun j => layTo P j k)) ∧ Hid (Below w.heap.size w wr)) (fun i _ _ => 64 - (intOf i).toNat)
  case atStart => exact ⟨0, by omega, rfl, Rw0, Hb1⟩
  case round =>
    obtain ⟨k, hk, rfl, hrw, hb⟩ := hrel
    by_cases hlt : k < 64
    · have hbit := fam_bit P k
      rw [decide_eq_true hlt, Bool.true_and] at hbit
      have hsz := sizeOf_yes hlt
      have Hsz := hide hsz
      cases hp : P k
      · rw [hp] at hbit
        have Hno : Hid (∃ V, RowsOf 36 3 wr w.heap.size w.heap.size m V (fun j => layTo P j (k + 1))) := by
          obtain ⟨V, h⟩ := hrw.out
          exact ⟨V, h.congr fun j _ => (layTo_no (by rw [hp]; simp)).symm⟩
        have Hbit := hide hbit
        clear hp hbit hsz
        go_wp2_with (go_at_call 130; refine (hasSetI _ k hF hlt _).mono ?_; rw [Hbit.out]; rintro e wx ⟨rfl, rfl⟩)
        go_roundw
        case rel => exact ⟨k + 1, by omega, by go_num, Hno, hb⟩
        case measure => simp [intOf]; omega
      · rw [hp] at hbit
        obtain ⟨V, hV⟩ := hrw.out
        have hpm := Hpcm.out k hlt hp
        have hpc6 := pc_le6 k hlt
        have ho := hV.row (pc k) hpm
        obtain ⟨hcell, _⟩ := hV.cell hpm
        have HV := hide hV
        have Hp := hide hp
        have Hbit := hide hbit
        have hlen : (zs (layTo P (pc k) k)).length < 17179869184 := by have := layTo_len P (pc k) k; rw [List.length_map]; omega
        have hsz2 := hb.out.size
        have hV0 := (hV.lt).2
        clear hp hbit hsz hrw hV
        go_wp2_with (first | (at_builtin; refine wpList_appAt ho (k : Int) Try.underlying36 infoI rfl _ _ rfl rfl rfl hlen hsz2 ?_; intro v' w5 hown5 hb5 hg5 hat5; obtain ⟨hc5, hf5⟩ := HV.out.storeAt hpm hg5; obtain ⟨A5, n5, c5, rfl⟩ := own_shape3 hown5) | (go_at_call 130; refine (hasSetI _ k hF hlt _).mono ?_; rw [Hbit.out]; rintro e wx ⟨rfl, rfl⟩) | (go_at_call 94; refine (sizeOfI _ _).mono ?_; rw [Hsz.out]; rintro e wx ⟨rfl, rfl⟩))
        have Hst : Hid (∃ V, RowsOf 36 3 (w5.setCell ⟨w.heap.size, pc k, none⟩ (.slice A5 n5 c5)) w.heap.size w.heap.size m V (fun j => layTo P j (k + 1))) := by
          refine ⟨_, (HV.out.step hpm hown5 hg5 hat5).congr fun j _ => ?_⟩
          by_cases e : j = pc k
          · subst e
            simp only [if_true]
            exact (layTo_yes Hp.out rfl).symm
          · simp only [if_neg e]
            exact (layTo_no (fun h => e h.2.symm)).symm
        have Hbb : Hid (Below w.heap.size w (w5.setCell ⟨w.heap.size, pc k, none⟩ (.slice A5 n5 c5))) := (hb.out.trans hb5).setCell (Nat.le_refl _) _
        go_roundw
        case rel => exact ⟨k + 1, by omega, by go_num, Hst, Hbb⟩
        case measure => simp [intOf]; omega
    · obtain rfl : k = 64 := by omega
      obtain ⟨V, hV⟩ := hrw.out
      have HV : Hid (RowsOf 36 3 wr w.heap.size w.heap.size m V (layer P)) := hV.congr fun j _ => layTo_all P j
      clear hrw hV
      go_wp2
      go_ret
      exact ⟨_, V, rfl, HV.out, hb.out⟩

theorem facesOfSizeI (n : Int) (v : Value) (xs : List Int) (t : Int) (w : World) (h : IntsAt w w.heap.size v xs) (hl : xs.length ≤ 1073741824) :
    Calls Try.prog 46 #[.agg #[.int .i64 n, v], .int .i64 t] w fun e w' => RetI 3 w (zs (facesOfSize n xs t)) e w' := by
  obtain ⟨A, c, rfl⟩ := reads_shape h
  obtain ⟨w1, hW1, at1, b1, z1⟩ := boxC w (.int .i64 n) (.slice A xs.length c) 42
  have r1 := now_ h b1
  have At1 := hide at1
  obtain ⟨e1_0, e1_1⟩ := at1
  have B1 := hide b1
  have R1 := hide r1
  clear h b1 r1 z1
  cases hcx : isCx n xs
  · have Hfin : Hid (facesOfSize n xs t = []) := by show _ = _; unfold facesOfSize; rw [hcx]; rfl
    have Hcx := hide hcx
    clear hcx
    go_enter Try.func46, Try.ntmps46
    go_wp2_with fail
    clear hW1
    refine (isComplexI n _ xs w1 R1.out hl).mono ?_
    rw [Hcx.out]
    rintro e w2 ⟨rfl, b2⟩
    have B2 := hide (nxt B1.out b2)
    go_wp2
    go_ret
    exact ⟨_, rfl, by rw [Hfin.out]; exact own_nil _ _, B2.out⟩
  · have Hcx := hide hcx
    clear hcx
    obtain ⟨m, hm, hm7, _⟩ := topOf_nat (faceP xs)
    have Hm := hide hm
    by_cases ht : 0 ≤ t ∧ t < (m : Int)
    · obtain ⟨j, rfl⟩ := Int.eq_ofNat_of_zero_le ht.1
      have hj : j < m := by omega
      have Hfin : Hid (facesOfSize n xs (j : Int) = layer (faceP xs) j) := by show _ = _; unfold facesOfSize; rw [Hcx.out, if_pos rfl, if_pos (by omega)]; rfl
      clear hm ht
      go_enter Try.func46, Try.ntmps46
      go_wp2_with fail
      clear hW1
      refine (isComplexI n _ xs w1 R1.out hl).mono ?_
      rw [Hcx.out]
      rintro e w2 ⟨rfl, b2⟩
      have B2 := hide (nxt B1.out b2)
      have R2 := hide (now_ R1.out b2)
      obtain ⟨e2_0, e2_1⟩ := At1.out.to b2
      clear e1_0 e1_1 b2
      go_wp2_with fail
      refine (facesInI n _ xs _ R2.out hl Hcx.out).mono ?_
      rintro e w3 ⟨rfl, b3⟩
      have B3 := hide (nxt B2.out b3)
      clear b3
      go_wp2_with fail
      refine (bySizeI (faceP xs) m Hm.out hm7 w3).mono ?_
      rintro e w4 ⟨g, V, rfl, hV, b4⟩
      have B4 := hide (nxt B3.out b4)
      obtain ⟨hcell, _⟩ := hV.cell hj
      have hro := hV.row j hj
      have Hro := hide (own_mono hro B3.out.size)
      clear hV b4 hro
      go_wp2
      go_ret
      exact ⟨_, rfl, by rw [Hfin.out]; exact Hro.out, B4.out⟩
    · have Hfin : Hid (facesOfSize n xs t = []) := by
        show _ = _
        unfold facesOfSize
        rw [Hcx.out, if_pos rfl]
        split
        · exact layer_above (by omega)
        · rfl
      clear hm
      have ht2 : t < 0 ∨ (m : Int) ≤ t := by omega
      clear ht
      rcases ht2 with ht | ht
      · go_enter Try.func46, Try.ntmps46
        go_wp2_with fail
        clear hW1
        refine (isComplexI n _ xs w1 R1.out hl).mono ?_
        rw [Hcx.out]
        rintro e w2 ⟨rfl, b2⟩
        have B2 := hide (nxt B1.out b2)
        have R2 := hide (now_ R1.out b2)
        obtain ⟨e2_0, e2_1⟩ := At1.out.to b2
        clear e1_0 e1_1 b2
        go_wp2_with fail
        refine (facesInI n _ xs _ R2.out hl Hcx.out).mono ?_
        rintro e w3 ⟨rfl, b3⟩
        have B3 := hide (nxt B2.out b3)
        clear b3
        go_wp2_with fail
        refine (bySizeI (faceP xs) m Hm.out hm7 w3).mono ?_
        rintro e w4 ⟨g, V, rfl, hV, b4⟩
        have B4 := hide (nxt B3.out b4)
        clear hV b4
        go_wp2
        go_ret
        exact ⟨_, rfl, by rw [Hfin.out]; exact own_nil _ _, B4.out⟩
      · have ht0 : ¬ t < 0 := by omega
        go_enter Try.func46, Try.ntmps46
        go_wp2_with fail
        clear hW1
        refine (isComplexI n _ xs w1 R1.out hl).mono ?_
        rw [Hcx.out]
        rintro e w2 ⟨rfl, b2⟩
        have B2 := hide (nxt B1.out b2)
        have R2 := hide (now_ R1.out b2)
        obtain ⟨e2_0, e2_1⟩ := At1.out.to b2
        clear e1_0 e1_1 b2
        go_wp2_with fail
        refine (facesInI n _ xs _ R2.out hl Hcx.out).mono ?_
        rintro e w3 ⟨rfl, b3⟩
        have B3 := hide (nxt B2.out b3)
        clear b3
        go_wp2_with fail
        refine (bySizeI (faceP xs) m Hm.out hm7 w3).mono ?_
        rintro e w4 ⟨g, V, rfl, hV, b4⟩
        have B4 := hide (nxt B3.out b4)
        clear hV b4
        go_wp2
        go_ret
        exact ⟨_, rfl, by rw [Hfin.out]; exact own_nil _ _, B4.out⟩
end

/- Walks: countBySize, FaceCounts, EulerOf in the program. -/
section
open Go.RowKit

theorem faceCounts_len (n : Int) (xs : List Int) : (faceCounts n xs).length ≤ 7 := by
  unfold faceCounts
  split
  · rw [countsOf_len]
    have := topOf_bd (faceP xs)
    omega
  · simp
theorem countBySizeI (P : Nat → Bool) (w : World) :
    Calls Try.prog 113 #[.int .u64 (fam P : Int)] w fun e w' => RetI 3 w (countsOf P) e w' := by
  obtain ⟨m, hm, hm7, hm2⟩ := topOf_nat P
  have Hm := hide hm
  have Hm2 := hide hm2
  clear hm hm2
  go_enter Try.func113, Try.ntmps113
  go_wp2_with fail
  refine (bySizeI P m Hm.out hm7 w).mono ?_
  rintro e w4 ⟨g, V, rfl, hV, b4⟩
  have HV := hide hV
  have Ho0 : Hid (OwnV 3 w4 w4.heap.size (.slice none 0 0) (ints (cntTo P 0))) := own_nil _ _
  have Hb0 : Hid (Below w4.heap.size w4 w4) := Below.refl _ _
  have B4 := hide b4
  clear hV b4
  go_wp2_with fail
  go_loopw [3, 5, 9] (fun v _ i wr => ∃ k : Nat, k ≤ m ∧ i = .int .i64 k ∧ Hid (OwnV 3 wr w4.heap.size v (ints (cntTo P k))) ∧ Hid (Below w4.heap.size w4 wr)) (fun _ _ i _ => m - (intOf i).toNat)
  case atStart => exact ⟨0, by omega, rfl, Ho0, Hb0⟩
  case round =>
    obtain ⟨k, hk, rfl, hown, hb⟩ := hrel
    by_cases hlt : k < m
    · have hV2 := HV.out.below hb.out
      obtain ⟨hcell, _⟩ := hV2.cell hlt
      obtain ⟨A5, c5, hv5⟩ := own_shape (hV2.row k hlt)
      have hl5 : (zs (layer P k)).length = (layer P k).length := List.length_map _
      rw [hv5, hl5] at hcell
      have Hs := hide (cntTo_snoc P k)
      have ho := hown.out
      have hsz := hb.out.size
      have hlen : (cntTo P k).length < 17179869184 := by rw [cntTo_len]; omega
      clear hV2 hv5 hl5
      go_wp2_with (at_builtin; refine wpList_appI ho ((layer P k).length : Int) Try.underlying36 infoI rfl _ _ rfl rfl rfl hlen hsz ?_; intro v' w5 hown5 hb5 hg5)
      have Hown5 : Hid (OwnV 3 w5 w4.heap.size v' (ints (cntTo P (k + 1)))) := by show OwnV _ _ _ _ _; rw [Hs.out]; exact hown5
      have Hb5 : Hid (Below w4.heap.size w4 w5) := hb.out.trans hb5
      go_wp2
      go_roundw
      case rel => exact ⟨k + 1, by omega, by go_num, Hown5, Hb5⟩
      case measure => simp [intOf]; omega
    · obtain rfl : k = m := by omega
      have ho := hown.out
      have e : cntTo P k = countsOf P := by unfold cntTo countsOf; rw [← Hm2.out]
      rw [e] at ho
      have Ho := hide ho
      have HB : Hid (Below w.heap.size w wr) := nxt B4.out hb.out
      clear ho hown e
      go_wp2
      go_ret
      exact ⟨_, rfl, own_mono Ho.out B4.out.size, HB.out⟩

theorem faceCountsI (n : Int) (v : Value) (xs : List Int) (w : World) (h : IntsAt w w.heap.size v xs) (hl : xs.length ≤ 1073741824) :
    Calls Try.prog 35 #[.agg #[.int .i64 n, v]] w fun e w' => RetI 3 w (faceCounts n xs) e w' := by
  obtain ⟨A, c, rfl⟩ := reads_shape h
  obtain ⟨w1, hW1, at1, b1, z1⟩ := boxC w (.int .i64 n) (.slice A xs.length c) 42
  have r1 := now_ h b1
  have At1 := hide at1
  obtain ⟨e1_0, e1_1⟩ := at1
  have B1 := hide b1
  have R1 := hide r1
  clear h b1 r1 z1
  cases hcx : isCx n xs
  · have Hfin : Hid (faceCounts n xs = []) := by show _ = _; unfold faceCounts; rw [hcx]; rfl
    have Hcx := hide hcx
    clear hcx
    go_enter Try.func35, Try.ntmps35
    go_wp2_with fail
    clear hW1
    refine (isComplexI n _ xs w1 R1.out hl).mono ?_
    rw [Hcx.out]
    rintro e w2 ⟨rfl, b2⟩
    have B2 := hide (nxt B1.out b2)
    go_wp2
    go_ret
    exact ⟨_, rfl, by rw [Hfin.out]; exact own_nil _ _, B2.out⟩
  · have Hcx := hide hcx
    have Hfin : Hid (faceCounts n xs = countsOf (faceP xs)) := by show _ = _; unfold faceCounts; rw [hcx]; rfl
    clear hcx
    go_enter Try.func35, Try.ntmps35
    go_wp2_with fail
    clear hW1
    refine (isComplexI n _ xs w1 R1.out hl).mono ?_
    rw [Hcx.out]
    rintro e w2 ⟨rfl, b2⟩
    have B2 := hide (nxt B1.out b2)
    have R2 := hide (now_ R1.out b2)
    obtain ⟨e2_0, e2_1⟩ := At1.out.to b2
    clear e1_0 e1_1 b2
    go_wp2_with fail
    refine (facesInI n _ xs _ R2.out hl Hcx.out).mono ?_
    rintro e w3 ⟨rfl, b3⟩
    have B3 := hide (nxt B2.out b3)
    clear b3
    go_wp2_with fail
    refine (countBySizeI (faceP xs) w3).mono ?_
    rintro e w4 ⟨v4, rfl, o4, b4⟩
    have B4 := hide (nxt B3.out b4)
    have O4 := hide (own_mono o4 B3.out.size)
    clear b4 o4
    go_wp2
    go_ret
    exact ⟨_, rfl, by rw [Hfin.out]; exact O4.out, B4.out⟩

theorem eulerOfI (n : Int) (v : Value) (xs : List Int) (w : World) (h : IntsAt w w.heap.size v xs) (hl : xs.length ≤ 1073741824) :
    Calls Try.prog 42 #[.agg #[.int .i64 n, v]] w fun e w' => RetN w (eulerOf n xs) e w' := by
  obtain ⟨A, c, rfl⟩ := reads_shape h
  obtain ⟨w1, hW1, at1, b1, z1⟩ := boxC w (.int .i64 n) (.slice A xs.length c) 42
  have r1 := now_ h b1
  have At1 := hide at1
  obtain ⟨e1_0, e1_1⟩ := at1
  have B1 := hide b1
  have R1 := hide r1
  clear h b1 r1 z1
  cases hcx : isCx n xs
  · have Hfin : Hid (eulerOf n xs = 0) := by show _ = _; unfold eulerOf; rw [hcx]; rfl
    have Hcx := hide hcx
    clear hcx
    go_enter Try.func42, Try.ntmps42
    go_wp2_with fail
    clear hW1
    refine (isComplexI n _ xs w1 R1.out hl).mono ?_
    rw [Hcx.out]
    rintro e w2 ⟨rfl, b2⟩
    have B2 := hide (nxt B1.out b2)
    go_wp2
    go_ret
    exact ⟨ret_int Hfin.out.symm, B2.out⟩
  · have Hcx := hide hcx
    obtain ⟨m, hm, hm7, hm2⟩ := topOf_nat (faceP xs)
    have Hfin : Hid (eulerOf n xs = eulTo (fun j => ((layer (faceP xs) j).length : Int)) m) := by show _ = _; unfold eulerOf; rw [hcx, if_pos rfl, ← hm2]
    have Hm2 := hide hm2
    clear hcx hm hm2
    go_enter Try.func42, Try.ntmps42
    go_wp2_with fail
    clear hW1
    refine (isComplexI n _ xs w1 R1.out hl).mono ?_
    rw [Hcx.out]
    rintro e w2 ⟨rfl, b2⟩
    have B2 := hide (nxt B1.out b2)
    have R2 := hide (now_ R1.out b2)
    obtain ⟨e2_0, e2_1⟩ := At1.out.to b2
    clear e1_0 e1_1 b2
    go_wp2_with fail
    refine (facesInI n _ xs _ R2.out hl Hcx.out).mono ?_
    rintro e w3 ⟨rfl, b3⟩
    have B3 := hide (nxt B2.out b3)
    clear b3
    go_wp2_with fail
    refine (countBySizeI (faceP xs) w3).mono ?_
    rintro e w4 ⟨v4, rfl, o4, b4⟩
    have B4 := hide (nxt B3.out b4)
    obtain ⟨A4, c4, hv4, _, he⟩ := form_ (own_reads o4)
    rw [countsOf_len, ← Hm2.out] at hv4 he
    subst hv4
    have He := hide he
    clear b4 o4 he e2_0 e2_1
    go_wp2_with fail
    go_loop [3, 4, 5, 13] (fun a _ _ i => ∃ k : Nat, k ≤ m ∧ i = .int .i64 k ∧ a = .int .i64 (eulTo (fun j => ((layer (faceP xs) j).length : Int)) k)) (fun _ _ _ i => m - (intOf i).toNat)
    case atStart => exact ⟨0, by omega, rfl, rfl⟩
    case round =>
      obtain ⟨k, hk, rfl, rfl⟩ := hrel
      by_cases hlt : k < m
      · obtain ⟨b, o, x, rfl, _, hx, hcell⟩ := He.out k hlt
        rw [countsOf_get _ (by rw [← Hm2.out]; exact hlt)] at hx
        cases hx
        have hbd := eulTo_bd (faceP xs) k
        have hbl := layer_len (faceP xs) k
        by_cases hodd : k % 2 = 1
        · have Hs : Hid (eulTo (fun j => ((layer (faceP xs) j).length : Int)) (k + 1) = eulTo (fun j => ((layer (faceP xs) j).length : Int)) k + ((layer (faceP xs) k).length : Int)) := by
            show (if k % 2 = 1 then _ else _) = _
            rw [if_pos hodd]
          have hq : ((k : Int) % 2 == 1) = true := by rw [beq_iff_eq]; omega
          clear hodd
          go_wp2
          go_round
          case rel => exact ⟨k + 1, by omega, by go_num, by rw [Hs.out]⟩
          case measure => simp [intOf]; omega
        · have Hs : Hid (eulTo (fun j => ((layer (faceP xs) j).length : Int)) (k + 1) = eulTo (fun j => ((layer (faceP xs) j).length : Int)) k - ((layer (faceP xs) k).length : Int)) := by
            show (if k % 2 = 1 then _ else _) = _
            rw [if_neg hodd]
          have hq : ((k : Int) % 2 == 1) = false := by rw [beq_eq_false_iff_ne]; omega
          clear hodd
          go_wp2
          go_round
          case rel => exact ⟨k + 1, by omega, by go_num, by rw [Hs.out]⟩
          case measure => simp [intOf]; omega
      · obtain rfl : k = m := by omega
        go_wp2
        go_ret
        exact ⟨ret_int Hfin.out.symm, B4.out⟩
end

/- Walks: IsPure. -/
section
open Go.RowKit

theorem sizeOf_at (s : Nat) (hs : s < 64) (w : World) : Calls Try.prog 94 #[.int .i64 (s : Int)] w fun e w' => e = .returned (.int .i64 (pc s : Int)) ∧ w = w' := by
  have h := sizeOfI (s : Int) w
  rwa [sizeOf_yes hs] at h

theorem isPureI (n : Int) (v : Value) (xs : List Int) (w : World) (h : IntsAt w w.heap.size v xs) (hl : xs.length ≤ 1073741824) :
    Calls Try.prog 44 #[.agg #[.int .i64 n, v]] w fun e w' => RetB w (pureOf n xs) e w' := by
  obtain ⟨A, c, rfl⟩ := reads_shape h
  obtain ⟨w1, hW1, at1, b1, z1⟩ := boxC w (.int .i64 n) (.slice A xs.length c) 42
  have r1 := now_ h b1
  have At1 := hide at1
  obtain ⟨e1_0, e1_1⟩ := at1
  have B1 := hide b1
  have R1 := hide r1
  clear h b1 r1
  cases hcx : isCx n xs
  · have Hcx := hide hcx
    clear hcx
    go_enter Try.func44, Try.ntmps44
    go_wp2_with fail
    clear hW1
    refine (isComplexI n _ xs w1 R1.out hl).mono ?_
    rw [Hcx.out]
    rintro e w2 ⟨rfl, b2⟩
    have B2 := hide (nxt B1.out b2)
    go_wp2
    go_ret
    exact ⟨ret_bool (pureOf_no Hcx.out).symm, B2.out⟩
  · have Hcx := hide hcx
    clear hcx
    go_enter Try.func44, Try.ntmps44
    go_wp2_with fail
    clear hW1
    refine (isComplexI n _ xs w1 R1.out hl).mono ?_
    rw [Hcx.out]
    rintro e w2 ⟨rfl, b2⟩
    have B2 := hide (nxt B1.out b2)
    obtain ⟨e2_0, e2_1⟩ := At1.out.to b2
    have He := hide (cxElems (now_ R1.out b2) Hcx.out)
    clear e1_0 e1_1 b2
    go_wp2
    go_loopw [4, 11] (fun _ i wr => ∃ k q : Nat, k ≤ xs.length ∧ i = .int .i64 k ∧ wr = w2.drewN q ∧ Hid (∀ (j : Nat) x, j < k → xs[j]? = some x → pc x.toNat = pc (xs.getD 0 0).toNat)) (fun _ i _ => xs.length - (intOf i).toNat)
    case atStart => exact ⟨0, 0, by omega, rfl, rfl, fun j x hj => by omega⟩
    case round =>
      obtain ⟨k, q, hk, rfl, rfl, hok⟩ := hrel
      by_cases hlt : k < xs.length
      · obtain ⟨b, o, s, ⟨c', hv⟩, hx, hs, hcell⟩ := He.out k hlt
        cases hv
        obtain ⟨b0, o0, s0, ⟨c0, hv⟩, hx0, hs0, hcell0⟩ := He.out 0 (by omega)
        cases hv
        simp only [Nat.add_zero] at hcell0
        have Hx := hide hx
        have Hg0 := hide (getD_of hx0)
        have hl0 : decide ((0 : Int) < (xs.length : Int)) = true := by simp; omega
        have hl1 : (0 : Int) < (xs.length : Int) := by omega
        clear hx hx0
        by_cases hpc : pc s = pc s0
        · have hne : ((pc s : Int) != (pc s0 : Int)) = false := by rw [bne_eq_false_iff_eq]; omega
          have Hok2 : Hid (∀ (j : Nat) x, j < k + 1 → xs[j]? = some x → pc x.toNat = pc (xs.getD 0 0).toNat) := by
            intro j x hj hjx
            rcases Nat.lt_or_ge j k with h | h
            · exact hok.out j x h hjx
            · obtain rfl : j = k := by omega
              rw [Hx.out] at hjx
              obtain rfl := Option.some.inj hjx
              rw [Hg0.out]
              exact hpc
          go_wp2
          go_quiet ((go_at_call 94; exact quiet_add_left (sizeOf_at _ (by assumption) _)))
          go_wp2
          go_roundw
          case rel => exact ⟨k + 1, _, by omega, by go_num, rfl, Hok2⟩
          case measure => simp [intOf]; omega
        · have hne : ((pc s : Int) != (pc s0 : Int)) = true := by rw [bne_iff_ne]; omega
          have Hbad : Hid (pureOf n xs = false) := pureOf_bad Hx.out (by rw [Hg0.out]; simpa using hpc)
          go_wp2
          go_quiet ((go_at_call 94; exact quiet_add_left (sizeOf_at _ (by assumption) _)))
          go_wp2
          go_ret
          exact ⟨ret_bool Hbad.out.symm, below_drewN (below_drewN B2.out _) _⟩
      · have Hall : Hid (pureOf n xs = true) := (pureOf_all (n := n) (fun j x hj hx => hok.out j x (by omega) hx)).trans Hcx.out
        go_wp2
        go_ret
        exact ⟨ret_bool Hall.out.symm, below_drewN B2.out _⟩

theorem isPureS (n : Int) (v : Value) (xs : List Int) (w : World) (h : IntsAt w w.heap.size v xs) (hl : xs.length ≤ 1073741824) (hbx : ∀ x ∈ xs, x ≤ 9223372036854775807) :
    Calls Try.prog 45 #[.agg #[.int .i64 n, v]] w fun e w' => RetB w (pureOf n xs) e w' := by
  obtain ⟨A, c, rfl⟩ := reads_shape h
  obtain ⟨w1, hW1, at1, b1, z1⟩ := boxC w (.int .i64 n) (.slice A xs.length c) 42
  have r1 := now_ h b1
  obtain ⟨e1_0, e1_1⟩ := at1
  have B1 := hide b1
  have R1 := hide r1
  obtain ⟨A', c', hsl, _, he⟩ := form_ r1
  cases hsl
  have He := hide he
  have Hbx := hide hbx
  clear h b1 r1 hbx he
  go_enter Try.func45, Try.ntmps45
  go_wp2_with fail
  clear hW1
  go_loopw [3] (fun i wr => ∃ k q : Nat, 1 ≤ k ∧ (k ≤ xs.length ∨ k = 1) ∧ i = .int .i64 k ∧ wr = w1.drewN q ∧ Hid (∀ (j : Nat) x, j < k → xs[j]? = some x → pc x.toNat = pc (xs.getD 0 0).toNat)) (fun i _ => xs.length - (intOf i).toNat)
  case atStart =>
    refine ⟨1, 0, by omega, .inr rfl, rfl, rfl, fun j x hj hx => ?_⟩
    obtain rfl : j = 0 := by omega
    rw [getD_of hx]
  case round =>
    obtain ⟨k, q, hk1, hk, rfl, rfl, hok⟩ := hrel
    by_cases hlt : k < xs.length
    · obtain ⟨b, o, x, rfl, hb, hx, hcell⟩ := He.out k hlt
      obtain ⟨b0, o0, x0, hA, hb0, hx0, hcell0⟩ := He.out 0 (by omega)
      cases hA
      simp only [Nat.add_zero] at hcell0
      have hxb := Hbx.out x (List.mem_of_getElem? hx)
      have hx0b := Hbx.out x0 (List.mem_of_getElem? hx0)
      have Hx := hide hx
      have Hg0 := hide (getD_of hx0)
      have hl1 : (0 : Int) < (xs.length : Int) := by omega
      clear hx hx0 hb hb0
      by_cases hpc : pc x.toNat = pc x0.toNat
      · have hne : ((pc x.toNat : Int) != (pc x0.toNat : Int)) = false := by rw [bne_eq_false_iff_eq]; omega
        have Hok2 : Hid (∀ (j : Nat) x, j < k + 1 → xs[j]? = some x → pc x.toNat = pc (xs.getD 0 0).toNat) := by
          intro j y hj hjx
          rcases Nat.lt_or_ge j k with h | h
          · exact hok.out j y h hjx
          · obtain rfl : j = k := by omega
            rw [Hx.out] at hjx
            obtain rfl := Option.some.inj hjx
            rw [Hg0.out]
            exact hpc
        go_wp2
        go_quiet ((go_at_call 117; exact quiet_add_left (l2SizeS _ _ (by assumption))))
        go_wp2
        go_roundw
        case rel => exact ⟨k + 1, _, by omega, by omega, by go_num, rfl, Hok2⟩
        case measure => simp [intOf]; omega
      · have hne : ((pc x.toNat : Int) != (pc x0.toNat : Int)) = true := by rw [bne_iff_ne]; omega
        have Hbad : Hid (pureOf n xs = false) := pureOf_bad Hx.out (by rw [Hg0.out]; simpa using hpc)
        go_wp2
        go_quiet ((go_at_call 117; exact quiet_add_left (l2SizeS _ _ (by assumption))))
        go_wp2
        go_ret
        exact ⟨ret_bool Hbad.out.symm, below_drewN (below_drewN B1.out _) _⟩
    · have Hall : Hid (pureOf n xs = isCx n xs) := pureOf_all (n := n) (fun j x hj hx => hok.out j x (by omega) hx)
      go_wp2_with fail
      refine (isComplexS n _ xs (w1.drewN q) (ReadsV.drewN R1.out q) hl).mono ?_
      rintro e w2 ⟨rfl, b2⟩
      have Hb2 : Hid (Below w.heap.size w w2) := nxt (below_drewN B1.out _) b2
      clear b2
      go_wp2
      go_ret
      exact ⟨ret_bool Hall.out.symm, Hb2.out⟩
end

/- The rows' frame: arguments that came in, opened to what the walks ask; and what a row asks behind a walk that returns true and leaves old memory as it was. -/
section
open Go.ChangeShapes Go.WideShapes Go.ChangeAt Go.RowKit
open Go.ChangeMaps (open_string shut_string)
open Go.Deep

theorem own : ownKnob Try.prog.godebug = none := by kernel_rfl
theorem laidOut : laidOutB Try.prog = true := by kernel_rfl

section
variable {H : Type} {enc : TypeId × Value → H} {P : Program} {w : World} {base : Nat} {spare : Nat → Bool} {held : Bool}

theorem add_none (b o i : Nat) : (⟨b, o, none⟩ : Addr).add i = ⟨b, o + i, none⟩ := by
  unfold Addr.add
  split <;> simp_all

/-- An int's bounds. -/
theorem wf_i64 {a : Int} (h : (Lit.int .i64 a).wf = true) : -9223372036854775808 ≤ a ∧ a ≤ 9223372036854775807 := by
  have h1 : IntKind.i64.min = -9223372036854775808 := rfl
  have h2 : IntKind.i64.max = 9223372036854775807 := rfl
  simp only [Lit.wf, Bool.and_eq_true, decide_eq_true_eq] at h
  omega

theorem openInts1 {t e : TypeId} (ht : P.underlying t = some (.slice e)) (he : P.underlying e = some (.int .i64)) (hc : P.cellsOf e = 1) {v : Value} {fuel : Nat} {y : DataW H × List MemPlace} (hf : DataW.trod enc P w base spare held fuel t [v] = some y) :
    ∃ xs : List Int, IntsAt w w.heap.size v xs ∧ xs.length ≤ 9223372036854775807 ∧ ∀ x ∈ xs, -9223372036854775808 ≤ x ∧ x ≤ 9223372036854775807 := by
  rcases open_ints ht he hc hf with ⟨hcs, _⟩ | ⟨a, len, cap, zs, hcs, _, hl, hm, hz, _, hcell, hwz⟩
  · obtain rfl : v = .slice none 0 0 := by simpa using hcs
    exact ⟨[], ReadsV.nil_ _ _, by simp, by simp⟩
  · obtain rfl : v = .slice (some a) len cap := by simpa using hcs
    unfold maxLen at hm
    have hzl : len ≤ zs.length := by rw [hz]; split <;> omega
    have hlen : (zs.take len).length = len := by rw [List.length_take]; omega
    refine ⟨zs.take len, ⟨some a, cap, by rw [ints_length, hlen], by rw [ints_length, hlen]; exact hl, fun hn => ?_⟩, by omega, fun x hx => wf_i64 (hwz x (List.mem_of_mem_take hx))⟩
    rw [ints_length, hlen] at hn
    have h0 := hcell 0 (by omega)
    obtain ⟨b, o, sp⟩ := a
    have hsp : sp = none := by simpa [Addr.add] using World.cell?_spot h0
    subst hsp
    have hb := World.block_lt_of_cell? _ _ h0
    rw [add_none] at hb
    refine ⟨b, o, rfl, hb, fun i u hu => ?_⟩
    rw [ints, List.getElem?_map, List.getElem?_take] at hu
    split at hu
    · rename_i hi
      have := hcell i (by omega)
      rw [add_none] at this
      rw [this]
      rw [List.getElem?_eq_getElem (by omega)] at hu
      simp at hu
      rw [← hu, List.getD, List.getElem?_eq_getElem (by omega)]
      rfl
    · cases hu
theorem openInts {t e : TypeId} (ht : P.underlying t = some (.slice e)) (he : P.underlying e = some (.int .i64)) (hc : P.cellsOf e = 1) {v : Value} {d : DataW H} {ps : List MemPlace} (h : DataW.Trod enc P w base spare held t v d ps) (hv : ∃ a l c, v = .slice a l c) :
    ∃ xs : List Int, IntsAt w w.heap.size v xs ∧ xs.length ≤ 9223372036854775807 ∧ ∀ x ∈ xs, -9223372036854775808 ≤ x ∧ x ≤ 9223372036854775807 := by
  obtain ⟨fuel, hf⟩ := h
  obtain ⟨a0, l0, c0, rfl⟩ := hv
  exact openInts1 ht he hc (show DataW.trod enc P w base spare held fuel t [.slice a0 l0 c0] = some _ by simpa [Value.cells] using hf)
/-- A struct of an int and a slice of ints. -/
theorem openComplex {t e : TypeId} {f0 f1 : Field} (hs : P.underlying t = some (.struct #[f0, f1])) (hone : oneCellFields P #[f0, f1] = true) (hC : P.cellsOf t = 2) (h0 : P.underlying f0.type = some (.int .i64)) (h1 : P.underlying f1.type = some (.slice e)) (he : P.underlying e = some (.int .i64)) (hc : P.cellsOf e = 1)
    {r : Reach} {b0 : Nat} {v : Value} {d : DataW H} {ps : List MemPlace} (hv : Value.okWide P w r b0 t v) (h : DataW.Trod enc P w base spare held t v d ps) :
    ∃ (n : Int) (u : Value) (xs : List Int), v = .agg #[.int .i64 n, u] ∧ IntsAt w w.heap.size u xs ∧ xs.length ≤ 9223372036854775807 ∧ (-9223372036854775808 ≤ n ∧ n ≤ 9223372036854775807) ∧ ∀ x ∈ xs, -9223372036854775808 ≤ x ∧ x ≤ 9223372036854775807 := by
  obtain ⟨v0, v1, y0, y1, n, rfl, _, _, t0, t1⟩ := Go.Joins.open_agg2 hs hone hC hv h
  obtain ⟨m, hm, _, hw⟩ := DataW.trod_int h0 t0
  obtain rfl : v0 = .int .i64 m := by simpa using hm
  obtain ⟨xs, hx, hl, hb⟩ := openInts1 h1 he hc t1
  exact ⟨m, v1, xs, rfl, hx, hl, wf_i64 hw, hb⟩
end

/-- Each of these types can be read. -/
def AllR (P : Program) : List TypeId → Prop
  | [] => True
  | t :: ts => (P.readableRec t = true ∧ t < P.types.size) ∧ AllR P ts
/-- ARGS of a row: whatever came in reads as it did. -/
theorem back_all {H : Type} {enc : TypeId × Value → H} {P : Program} (hl : laidOutB P = true) : ∀ (ts : List TypeId) (vs : List Value) (ds : List (DataW H)) (ps : List MemPlace) {W W' : World}, AllR P ts →
    DataW.TrodAll enc P W 0 (fun _ => true) true ts vs ds ps → Below W.heap.size W W' → DataW.TrodAll enc P W' 0 (fun b => decide (b < W.heap.size)) true ts vs ds ps := by
  intro ts
  induction ts with
  | nil =>
    intro vs ds ps W W' _ h _
    obtain ⟨rfl, rfl, rfl⟩ := trodAll_nil h
    exact trodAll_mk0
  | cons t ts ih =>
    intro vs ds ps W W' ht h hb
    obtain ⟨v0, vs0, d0, ds0, p0, q0, rfl, rfl, rfl, h0, r0⟩ := trodAll_cons h
    have hk := h0
    obtain ⟨m, hm⟩ := hk
    have lt0 : ∀ x ∈ p0, x.block < W.heap.size := DataW.trod_lt m _ _ _ hm
    exact trodAll_cons_mk (Below.trod hl ht.1.1 ht.1.2 h0 hb lt0) (ih _ _ _ ht.2 r0 hb)

/-- A byte that fits its kind is one. -/
theorem byte_of {y : Int} (h : (Lit.int .u8 y).wf = true) : ∃ a : UInt8, y = (a.toNat : Int) := by
  have h1 : IntKind.u8.min = 0 := rfl
  have h2 : IntKind.u8.max = 255 := rfl
  simp only [Lit.wf, Bool.and_eq_true, decide_eq_true_eq] at h
  refine ⟨UInt8.ofNat y.toNat, ?_⟩
  rw [UInt8.toNat_ofNat_of_lt' (by show y.toNat < 256; omega)]
  omega
theorem str_of (s : ByteArray) (h : s.size ≤ maxLen) : ∃ l : List UInt8, s = ⟨l.toArray⟩ ∧ l.length ≤ 9223372036854775807 := by
  unfold maxLen at h
  exact ⟨s.data.toList, by simp, by simpa using h⟩
end
end Go.Proofs.Ytmkacjpjcfffmaa
