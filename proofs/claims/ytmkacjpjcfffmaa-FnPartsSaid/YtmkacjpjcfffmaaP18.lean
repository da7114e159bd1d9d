/- Texts of one kind, laid together (4 of them). -/
import Derived.StillTailTactics
import Derived.Test.YtmkacjpjcfffmaaP1
import Derived.Test.YtmkacjpjcfffmaaP6
import Derived.Test.YtmkacjpjcfffmaaP13
import Derived.Test.YtmkacjpjcfffmaaP14
import Derived.Test.YtmkacjpjcfffmaaP17
namespace Go.Proofs.Ytmkacjpjcfffmaa
/- Walks: SkeletonOf in the reference. Printed by gen/w29.py. -/
section
open Go.RowKit

theorem skel_max {xs : List Int} {t : Int} : maxOf (inList (zs ((listOf (faceP xs)).filter (fun u => decide ((pc u : Int) ≤ t))))) = maxOf (skelP (faceP xs) t) := by
  apply maxOf_congr
  intro u hu
  rw [Bool.eq_iff_iff, mem_zs, List.mem_filter, mem_listOf]
  unfold skelP
  rw [Bool.and_eq_true]
  exact ⟨fun h => ⟨h.1.2, h.2⟩, fun h => ⟨⟨hu, h.1⟩, h.2⟩⟩
theorem retCB_skel {w w' : World} {ok : Bool} {n t : Int} {xs : List Int} {fs : List Nat} (h : ok = true) (hl : listOf (faceP xs) = fs) {v : Value} (ho : OwnV 3 w' w.heap.size v (ints (zs (maxOf (inList (zs (fs.filter (fun u => decide ((pc u : Int) ≤ t))))))))) (hb : Below w.heap.size w w') : RetCB 3 w (cbN ok n) (cbXs ok (maxOf (skelP (faceP xs) t))) ok (.returned (.tuple #[.agg #[.int .i64 n, v], .bool true])) w' := by
  rw [← hl, skel_max] at ho
  exact retCB_yes h ho hb
theorem skeletonOfS (n : Int) (v : Value) (xs : List Int) (t : Int) (w : World) (h : IntsAt w w.heap.size v xs) (hl : xs.length ≤ 1048576) :
    Calls Try.prog 68 #[.agg #[.int .i64 n, v], .int .i64 t] w fun e w' => RetCB 3 w (cbN (skOk n xs t) n) (cbXs (skOk n xs t) (maxOf (skelP (faceP xs) t))) (skOk n xs t) e w' := by
  obtain ⟨A, c, rfl⟩ := reads_shape h
  obtain ⟨w1, hW1, at1, b1, z1⟩ := boxC w (.int .i64 n) (.slice A xs.length c) 42
  obtain ⟨w2i, hW2, at2, rs2, b2, z2⟩ := boxRes w1 42
  have b02 := nxt b1 b2
  have R2i := hide (now_ h b02)
  have at1 := at1.to b2
  have At1i := hide at1
  have At2i := hide at2
  obtain ⟨e1, e2⟩ := at1
  have Rs2i := hide rs2
  have B2i := hide b02
  have Hle : Hid (w.heap.size ≤ w1.heap.size) := by show _ ≤ _; omega
  clear h at2 rs2 b1 b2 b02 z1 z2
  cases hcx : isCx n xs
  · have Hcx := hide hcx
    clear hcx
    have Hok : Hid (skOk n xs t = false) := by show _ = _; unfold skOk; rw [Hcx.out]; rfl
    go_enter Try.func68, Try.ntmps68
    go_wp2_with fail
    clear hW1 hW2
    refine (isComplexS n _ xs w2i R2i.out (by omega)).mono ?_
    rw [Hcx.out]
    rintro e w3 ⟨rfl, b3⟩
    obtain ⟨e3_0, e3_1⟩ := At2i.out.to b3
    obtain ⟨_, f0, f1⟩ := Rs2i.out.to b3
    have hr : w1.heap.size < w3.heap.size := (Rs2i.out.to b3).lt
    have B3 := hide (nxt B2i.out b3)
    clear b3 e1 e2
    go_wp2
    refine bodyPost_ret (v := .tuple #[.agg #[.int .i64 0, .slice none 0 0], .bool false]) (by simp [results, Try.results68, go_sem, e3_0, e3_1]) rfl ?_
    exact retCB_no Hok.out (below_store B3.out Hle.out _ _)
  · have Hcx := hide hcx
    clear hcx
    by_cases ht : 0 ≤ t ∧ t ≤ 6
    · have Hin : Hid (inB t 0 6 = true) := inB_mk ht
      have Hok : Hid (skOk n xs t = true) := by show _ = _; unfold skOk; rw [Hcx.out, decide_eq_true ht]; rfl
      clear ht
      go_enter Try.func68, Try.ntmps68
      go_wp2_with fail
      clear hW1 hW2
      refine (isComplexS n _ xs w2i R2i.out (by omega)).mono ?_
      rw [Hcx.out]
      rintro e w2 ⟨rfl, b3⟩
      have R2 := hide (now_ R2i.out b3)
      have At1 := hide (At1i.out.to b3)
      have Rs2 := hide (Rs2i.out.to b3)
      have B2 := hide (nxt B2i.out b3)
      clear b3 e1 e2
      obtain ⟨w3b, hW3, ho, hbw⟩ : ∃ W, w2.alloc (.cells #[] 3) = W ∧ OwnV 3 W w2.heap.size (.slice (some ⟨w2.heap.size, 0, none⟩) 0 0) (ints (zs (((listOf (faceP xs)).take 0).filter (fun u => decide ((pc u : Int) ≤ t))))) ∧ Below w2.heap.size w2 W := ⟨_, rfl, own_empty _ _, below_alloc _ _⟩
      have Ho := hide ho
      have Hbw := hide hbw
      have R3 := hide (now_ R2.out hbw)
      obtain ⟨e31, e32⟩ := At1.out.to hbw
      clear ho hbw
      go_wp2_with (go_at_call 120; refine (l1InS _ _ _ _).mono ?_; rw [Hin.out]; rintro e wx ⟨rfl, rfl⟩)
      clear hW3 e31 e32
      refine (facesOfS n _ xs _ R3.out (by omega)).mono ?_
      rw [facesOf_yes Hcx.out]
      rintro e w4 ⟨v4, rfl, o4, b4⟩
      have Hdis : Hid (∀ j, Value.ownBlock (.slice (some ⟨w2.heap.size, 0, none⟩) 0 0) = some j → Value.ownBlock v4 ≠ some j) := fun j hj e => by
        have h1 := (own_block Ho.out j hj).2
        have h2 := (own_block o4 j e).1
        omega
      have Ho4b := hide o4
      have Hb4 := hide (nxt Hbw.out b4)
      have Ho4 := hide (own_below Ho.out b4)
      have Hf4 := hide (own_reads o4)
      have Hlen : Hid ((listOf (faceP xs)).length ≤ 448) := listOf_len _
      have Hmem : Hid (∀ u ∈ listOf (faceP xs), u < 64) := fun u hu => (mem_listOf.1 hu).1
      clear o4 b4
      generalize hl0 : listOf (faceP xs) = fs at Hf4 Hlen Hmem Ho4b
      have hlen448 := Hlen.out
      obtain ⟨A4, c4, hv4, _, he4⟩ := form_ Hf4.out
      have hfl : (zs fs).length = fs.length := List.length_map _
      rw [hfl] at hv4 he4
      subst hv4
      clear he4 hfl
      go_wp2_with fail
      go_loopw [6, 8] (fun v i wr => ∃ k : Nat, k ≤ fs.length ∧ i = .int .i64 k ∧ Hid (OwnV 3 wr w2.heap.size v (ints (zs ((fs.take k).filter (fun u => decide ((pc u : Int) ≤ t)))))) ∧ Hid (Below w2.heap.size w2 wr) ∧ Hid (OwnV 3 wr w3b.heap.size (.slice A4 fs.length c4) (ints (zs fs))) ∧ Hid (∀ j, Value.ownBlock v = some j → Value.ownBlock (.slice A4 fs.length c4) ≠ some j)) (fun _ i _ => fs.length - (intOf i).toNat)
      case atStart => exact ⟨0, by omega, rfl, by rw [← hl0]; exact Ho4, Hb4, Ho4b, Hdis⟩
      case round =>
        obtain ⟨k, hk, rfl, hown, hb, hfs, hdis⟩ := hrel
        by_cases hlt : k < fs.length
        · obtain ⟨A5, c5, hv5, _, he5⟩ := form_ (own_reads hfs.out)
          have hfl5 : (zs fs).length = fs.length := List.length_map _
          rw [hfl5] at hv5
          cases hv5
          obtain ⟨b, o, x', hA5, hbb, hx, hcell⟩ := he5 k (by rw [hfl5]; exact hlt)
          subst hA5
          clear he5 hfl5
          obtain ⟨x, rfl, hx'⟩ : ∃ x : Nat, x' = (x : Int) ∧ fs[k]? = some x := by
            rw [show zs fs = fs.map Int.ofNat from rfl, List.getElem?_map] at hx
            cases hfk : fs[k]? with
            | none => rw [hfk] at hx; simp at hx
            | some y => rw [hfk] at hx; simp at hx; exact ⟨y, hx.symm, rfl⟩
          have hx64 := Hmem.out x (List.mem_of_getElem? hx')
          have Ht := hide (take_snoc _ _ _ hx')
          have hlen : (zs ((fs.take k).filter (fun u => decide ((pc u : Int) ≤ t)))).length < 17179869184 := by
            have h1 := List.length_filter_le (fun u => decide ((pc u : Int) ≤ t)) (fs.take k)
            have h2 := List.length_take_le k fs
            rw [List.length_map]; omega
          have hsz := hb.out.size
          have ho := hown.out
          have hxb : (x : Int) ≤ 9223372036854775807 := by omega
          have hq : decide ((pc x : Int) ≤ t) = decide ((pc x : Int) ≤ t) := rfl
          clear hx hx' hbb
          cases hsub : (decide ((pc x : Int) ≤ t))
          · have Hn : Hid ((fs.take (k + 1)).filter (fun u => decide ((pc u : Int) ≤ t)) = (fs.take k).filter (fun u => decide ((pc u : Int) ≤ t))) := by show _ = _; rw [Ht.out, List.filter_append]; simp only [List.filter_cons, List.filter_nil]; rw [hsub]; simp
            have hq2 := hsub
            clear hsub hq
            go_wp2_with (go_at_call 117; refine (l2SizeS _ _ hxb).mono ?_; rw [Int.toNat_natCast]; rintro e wx ⟨rfl, rfl⟩)
            go_roundw
            case rel => exact ⟨k + 1, by omega, by go_num, by rw [Hn.out]; exact hown, hb, hfs, hdis⟩
            case measure => simp [intOf]; omega
          · have Hy : Hid ((fs.take (k + 1)).filter (fun u => decide ((pc u : Int) ≤ t)) = (fs.take k).filter (fun u => decide ((pc u : Int) ≤ t)) ++ [x]) := by show _ = _; rw [Ht.out, List.filter_append]; simp only [List.filter_cons, List.filter_nil]; rw [hsub]; simp
            have hq2 := hsub
            clear hsub hq
            go_wp2_with (first | (at_builtin; refine wpList_appAt ho (x : Int) Try.underlying36 infoI rfl _ _ rfl rfl rfl hlen hsz ?_; intro v' w5 hown5 hb5 hg5 hat5) | (go_at_call 117; refine (l2SizeS _ _ hxb).mono ?_; rw [Int.toNat_natCast]; rintro e wx ⟨rfl, rfl⟩))
            have Hown5 : Hid (OwnV 3 w5 w2.heap.size v' (ints (zs ((fs.take (k + 1)).filter (fun u => decide ((pc u : Int) ≤ t)))))) := by show OwnV _ _ _ _ _; rw [Hy.out, zs_snoc]; exact hown5
            have Hb5 : Hid (Below w2.heap.size w2 w5) := hb.out.trans hb5
            have Hfs5 := hide (own_grown hfs.out hg5 (fun j hj e => hdis.out j e hj))
            have Hdis5 : Hid (∀ j, Value.ownBlock v' = some j → Value.ownBlock (.slice (some ⟨b, o, none⟩) fs.length c4) ≠ some j) := by
              intro j hj e
              rcases hat5 with h | h
              · exact hdis.out j (h.symm.trans hj) e
              · rw [h] at hj
                have h1 := (own_block hfs.out j e).2
                have h2 := Option.some.inj hj
                omega
            go_wp2
            go_roundw
            case rel => exact ⟨k + 1, by omega, by go_num, Hown5, Hb5, Hfs5, Hdis5⟩
            case measure => simp [intOf]; omega
        · have hk2 : fs.length ≤ k := by omega
          have Ht := hide (take_all fs k hk2)
          have hlen : (zs (fs.filter (fun u => decide ((pc u : Int) ≤ t)))).length ≤ 1073741824 := by
            have h1 := List.length_filter_le (fun u => decide ((pc u : Int) ≤ t)) fs
            rw [List.length_map]; omega
          have hown2 := hown.out
          rw [Ht.out] at hown2
          have Hown := hide hown2
          have Hall : Hid (allSets (zs (fs.filter (fun u => decide ((pc u : Int) ≤ t)))) = true) := zs_all (fun u hu => Hmem.out u (List.mem_filter.1 hu).1)
          obtain ⟨e1, e2⟩ := At1.out.to hb.out
          clear hown hown2 hfs hdis
          go_wp2_with fail
          refine (l3MakeS n _ (zs (fs.filter (fun u => decide ((pc u : Int) ≤ t)))) wr (own_reads Hown.out) hlen Hall.out).mono ?_
          rintro e w6 ⟨v', rfl, o6, b6⟩
          obtain ⟨A', c', rfl⟩ := own_shape o6
          obtain ⟨h90, f90, f91⟩ := (Rs2.out.to hb.out).to b6
          obtain ⟨q0, q1, h90, h91⟩ := h90
          have h9r := ((Rs2.out.to hb.out).to b6).lt
          have Hfar := hide (fun k hk => Nat.lt_of_lt_of_le (Rs2.out.to hb.out).lt (own_block o6 k hk).1)
          have Ho6 := hide (own_mono o6 (nxt B2.out hb.out).size)
          have Hb6 := hide (nxt (nxt B2.out hb.out) b6)
          have Hl0 := hide hl0
          clear o6 b6 hl0
          go_wp2
          refine bodyPost_ret (v := .tuple #[.agg #[.int .i64 n, .slice A' (zs (maxOf (inList (zs (fs.filter (fun u => decide ((pc u : Int) ≤ t))))))).length c'], .bool true]) (by simp [results, Try.results68, go_sem, h90, h91]) rfl ?_
          exact retCB_skel Hok.out Hl0.out (own_setNe (own_setNe Ho6.out (fun k hk => by have := Hfar.out k hk; omega) _ _) (fun k hk => by have := Hfar.out k hk; omega) _ _) (below_store Hb6.out Hle.out _ _)
    · have Hin : Hid (inB t 0 6 = false) := inB_no ht
      have Hok : Hid (skOk n xs t = false) := by show _ = _; unfold skOk; rw [Hcx.out, decide_eq_false ht]; rfl
      clear ht
      go_enter Try.func68, Try.ntmps68
      go_wp2_with fail
      clear hW1 hW2
      refine (isComplexS n _ xs w2i R2i.out (by omega)).mono ?_
      rw [Hcx.out]
      rintro e w3 ⟨rfl, b3⟩
      obtain ⟨e3_0, e3_1⟩ := At2i.out.to b3
      obtain ⟨_, f0, f1⟩ := Rs2i.out.to b3
      have hr : w1.heap.size < w3.heap.size := (Rs2i.out.to b3).lt
      have B3 := hide (nxt B2i.out b3)
      clear b3 e1 e2
      go_wp2_with (go_at_call 120; refine (l1InS _ _ _ _).mono ?_; rw [Hin.out]; rintro e wx ⟨rfl, rfl⟩)
      refine bodyPost_ret (v := .tuple #[.agg #[.int .i64 0, .slice none 0 0], .bool false]) (by simp [results, Try.results68, go_sem, e3_0, e3_1]) rfl ?_
      exact retCB_no Hok.out (below_store B3.out Hle.out _ _)
end

/- Walks: UnionOf in the reference. Printed by gen/w46.py. -/
section
open Go.RowKit

theorem cx_all {n : Int} {xs : List Int} (h : isCx n xs = true) : allSets xs = true := List.all_eq_true.2 fun x hx => decide_eq_true (isCx_sets h x hx)
theorem union_max {n m : Int} {xs ys : List Int} (h : isCx n xs = true) (k : isCx m ys = true) : maxOf (inList (([] ++ xs) ++ ys)) = maxOf (fun s => faceP xs s || faceP ys s) := by
  rw [List.nil_append, maxOf_list (allSets_append (cx_all h) (cx_all k))]
  congr 1
  funext s
  exact faceP_append xs ys s

set_option maxRecDepth 100000 in
theorem unionOfS (n : Int) (v : Value) (xs : List Int) (m : Int) (u : Value) (ys : List Int) (w : World) (h : IntsAt w w.heap.size v xs) (k : IntsAt w w.heap.size u ys) (hl : xs.length ≤ 1048576) (kl : ys.length ≤ 1048576) :
    Calls Try.prog 74 #[.agg #[.int .i64 n, v], .agg #[.int .i64 m, u]] w fun e w' => RetCB 3 w (cbN (sameOk n m xs ys) (n)) (cbXs (sameOk n m xs ys) (maxOf (fun s => faceP xs s || faceP ys s))) (sameOk n m xs ys) e w' := by
  obtain ⟨A, c, rfl⟩ := reads_shape h
  obtain ⟨A', c', rfl⟩ := reads_shape k
  obtain ⟨w1, hW1, at1, b1, z1⟩ := boxC w (.int .i64 n) (.slice A xs.length c) 42
  obtain ⟨w2, hW2, at2, b2, z2⟩ := boxC w1 (.int .i64 m) (.slice A' ys.length c') 42
  obtain ⟨w3, hW3, at3, rs3, b3, z3⟩ := boxRes w2 42
  have b02 := nxt b1 b2
  have b03 := nxt b02 b3
  have R3 := hide (now_ h b03)
  have K3 := hide (now_ k b03)
  have at1 := (at1.to b2).to b3
  have at2 := at2.to b3
  have At1 := hide at1
  have At2 := hide at2
  have At3 := hide at3
  have Rs3 := hide rs3
  have B3 := hide b03
  have Hle : Hid (w.heap.size ≤ w2.heap.size) := by show _ ≤ _; omega
  have Hne1 : Hid (w.heap.size ≠ w2.heap.size) := by show _ ≠ _; omega
  have Hne2 : Hid (w1.heap.size ≠ w2.heap.size) := by show _ ≠ _; omega
  obtain ⟨e1_0, e1_1⟩ := at1
  obtain ⟨e2_0, e2_1⟩ := at2
  obtain ⟨e3_0, e3_1⟩ := at3
  clear h k b1 b2 b3 b02 b03 z1 z2 z3 rs3
  cases hca : isCx n xs
  · have Hca := hide hca
    have Hok : Hid (sameOk n m xs ys = false) := by show _ = _; unfold sameOk; rw [hca]; rfl
    clear hca
    go_enter Try.func74, Try.ntmps74
    go_wp2_with fail
    clear hW1 hW2 hW3
    refine (isComplexS n _ xs w3 R3.out (by omega)).mono ?_
    rw [Hca.out]
    rintro e w4 ⟨rfl, b4⟩
    obtain ⟨q4_0, q4_1⟩ := At3.out.to b4
    obtain ⟨_, f40, f41⟩ := (Rs3.out).to b4
    have hr4 : w2.heap.size < w4.heap.size := ((Rs3.out).to b4).lt
    have B4 := hide (nxt B3.out b4)
    clear b4 e1_0 e1_1 e2_0 e2_1 e3_0 e3_1
    go_wp2
    refine bodyPost_ret (v := .tuple #[.agg #[.int .i64 0, .slice none 0 0], .bool false]) (by simp [results, Try.results74, go_sem, q4_0, q4_1]) rfl ?_
    exact retCB_no Hok.out (below_store B4.out Hle.out _ _)
  have Hca := hide hca
  cases hcb : isCx m ys
  · have Hcb := hide hcb
    have Hok : Hid (sameOk n m xs ys = false) := by show _ = _; unfold sameOk; rw [hca, hcb]; rfl
    clear hca hcb
    go_enter Try.func74, Try.ntmps74
    go_wp2_with fail
    clear hW1 hW2 hW3
    refine (isComplexS n _ xs w3 R3.out (by omega)).mono ?_
    rw [Hca.out]
    rintro e w4 ⟨rfl, b4⟩
    have R4 := hide (now_ R3.out b4)
    have K4 := hide (now_ K3.out b4)
    have At1_4 := hide (At1.out.to b4)
    have At2_4 := hide (At2.out.to b4)
    have At3_4 := hide (At3.out.to b4)
    have Rs3_4 := hide (Rs3.out.to b4)
    have B4 := hide (nxt B3.out b4)
    obtain ⟨p4_0, p4_1⟩ := At2_4.out
    clear b4 e1_0 e1_1 e2_0 e2_1 e3_0 e3_1
    go_wp2_with fail
    refine (isComplexS m _ ys w4 K4.out (by omega)).mono ?_
    rw [Hcb.out]
    rintro e w5 ⟨rfl, b5⟩
    obtain ⟨q5_0, q5_1⟩ := At3_4.out.to b5
    obtain ⟨_, f50, f51⟩ := (Rs3_4.out).to b5
    have hr5 : w2.heap.size < w5.heap.size := ((Rs3_4.out).to b5).lt
    have B5 := hide (nxt B4.out b5)
    clear b5 p4_0 p4_1
    go_wp2
    refine bodyPost_ret (v := .tuple #[.agg #[.int .i64 0, .slice none 0 0], .bool false]) (by simp [results, Try.results74, go_sem, q5_0, q5_1]) rfl ?_
    exact retCB_no Hok.out (below_store B5.out Hle.out _ _)
  have Hcb := hide hcb
  by_cases hnm : ¬ (n = m)
  · skip
    have Hok : Hid (sameOk n m xs ys = false) := by show _ = _; unfold sameOk; rw [hca, hcb, decide_eq_false hnm]; rfl
    have hq : (n != m) = true := by simp [hnm]
    clear hca hcb hnm
    go_enter Try.func74, Try.ntmps74
    go_wp2_with fail
    clear hW1 hW2 hW3
    refine (isComplexS n _ xs w3 R3.out (by omega)).mono ?_
    rw [Hca.out]
    rintro e w4 ⟨rfl, b4⟩
    have R4 := hide (now_ R3.out b4)
    have K4 := hide (now_ K3.out b4)
    have At1_4 := hide (At1.out.to b4)
    have At2_4 := hide (At2.out.to b4)
    have At3_4 := hide (At3.out.to b4)
    have Rs3_4 := hide (Rs3.out.to b4)
    have B4 := hide (nxt B3.out b4)
    obtain ⟨p4_0, p4_1⟩ := At2_4.out
    clear b4 e1_0 e1_1 e2_0 e2_1 e3_0 e3_1
    go_wp2_with fail
    refine (isComplexS m _ ys w4 K4.out (by omega)).mono ?_
    rw [Hcb.out]
    rintro e w5 ⟨rfl, b5⟩
    obtain ⟨q5_0, q5_1⟩ := At3_4.out.to b5
    obtain ⟨_, f50, f51⟩ := (Rs3_4.out).to b5
    have hr5 : w2.heap.size < w5.heap.size := ((Rs3_4.out).to b5).lt
    obtain ⟨a5_0, a5_1⟩ := At1_4.out.to b5
    obtain ⟨p5_0, p5_1⟩ := At2_4.out.to b5
    have B5 := hide (nxt B4.out b5)
    clear b5 p4_0 p4_1
    go_wp2
    refine bodyPost_ret (v := .tuple #[.agg #[.int .i64 0, .slice none 0 0], .bool false]) (by simp [results, Try.results74, go_sem, q5_0, q5_1]) rfl ?_
    exact retCB_no Hok.out (below_store B5.out Hle.out _ _)
  have hnm := Decidable.not_not.1 hnm
  have Hok : Hid (sameOk n m xs ys = true) := by show _ = _; unfold sameOk; rw [hca, hcb, decide_eq_true hnm]; rfl
  have hq : (n != m) = false := by simp [hnm]
  have Hnm := hide hnm
  clear hca hcb hnm
  have Hmax := hide (union_max Hca.out Hcb.out)
  have Hall : Hid (allSets (([] ++ xs) ++ ys) = true) := allSets_append (allSets_append rfl (cx_all Hca.out)) (cx_all Hcb.out)
  have hlen0 : ([] : List Int).length + xs.length < 17179869184 := by show 0 + xs.length < _; omega
  have hlen1 : (([] : List Int) ++ xs).length + ys.length < 17179869184 := by rw [List.nil_append]; omega
  have hlen2 : ((([] : List Int) ++ xs) ++ ys).length ≤ 1073741824 := by rw [List.nil_append, List.length_append]; omega
  go_enter Try.func74, Try.ntmps74
  go_wp2_with fail
  clear hW1 hW2 hW3
  refine (isComplexS n _ xs w3 R3.out (by omega)).mono ?_
  rw [Hca.out]
  rintro e w4 ⟨rfl, b4⟩
  have R4 := hide (now_ R3.out b4)
  have K4 := hide (now_ K3.out b4)
  have At1_4 := hide (At1.out.to b4)
  have At2_4 := hide (At2.out.to b4)
  have At3_4 := hide (At3.out.to b4)
  have Rs3_4 := hide (Rs3.out.to b4)
  have B4 := hide (nxt B3.out b4)
  obtain ⟨p4_0, p4_1⟩ := At2_4.out
  clear b4 e1_0 e1_1 e2_0 e2_1 e3_0 e3_1
  go_wp2_with fail
  refine (isComplexS m _ ys w4 K4.out (by omega)).mono ?_
  rw [Hcb.out]
  rintro e w5 ⟨rfl, b5⟩
  obtain ⟨a5_0, a5_1⟩ := At1_4.out.to b5
  obtain ⟨p5_0, p5_1⟩ := At2_4.out.to b5
  have R5 := hide (now_ R4.out b5)
  have K5 := hide (now_ K4.out b5)
  have At1_5 := hide (At1_4.out.to b5)
  have At2_5 := hide (At2_4.out.to b5)
  have Rs3_5 := hide (Rs3_4.out.to b5)
  have B5 := hide (nxt B4.out b5)
  clear b5 p4_0 p4_1
  have Sx : Hid (Below w.heap.size w w5.drew ∧ Res w2.heap.size w5.drew) := ⟨B5.out.drew, by have h := Rs3_5.out; exact h⟩
  have hK : Hid (∀ W W' : World, (AtC W w.heap.size (.int .i64 n) (.slice A xs.length c) ∧ AtC W w1.heap.size (.int .i64 m) (.slice A' ys.length c') ∧ Hid (Below w.heap.size w W ∧ Res w2.heap.size W)) → Below W.heap.size W W' → (AtC W' w.heap.size (.int .i64 n) (.slice A xs.length c) ∧ AtC W' w1.heap.size (.int .i64 m) (.slice A' ys.length c') ∧ Hid (Below w.heap.size w W' ∧ Res w2.heap.size W'))) := fun W W' h k => ⟨h.1.to k, h.2.1.to k, nxt h.2.2.1 k, h.2.2.2.to k⟩
  have hKs : Hid (∀ (W : World) (x y : Value), (AtC W w.heap.size (.int .i64 n) (.slice A xs.length c) ∧ AtC W w1.heap.size (.int .i64 m) (.slice A' ys.length c') ∧ Hid (Below w.heap.size w W ∧ Res w2.heap.size W)) → (AtC ((W.setCell ⟨w2.heap.size, 0, none⟩ x).setCell ⟨w2.heap.size, 1, none⟩ y) w.heap.size (.int .i64 n) (.slice A xs.length c) ∧ AtC ((W.setCell ⟨w2.heap.size, 0, none⟩ x).setCell ⟨w2.heap.size, 1, none⟩ y) w1.heap.size (.int .i64 m) (.slice A' ys.length c') ∧ Hid (Below w.heap.size w ((W.setCell ⟨w2.heap.size, 0, none⟩ x).setCell ⟨w2.heap.size, 1, none⟩ y) ∧ Res w2.heap.size ((W.setCell ⟨w2.heap.size, 0, none⟩ x).setCell ⟨w2.heap.size, 1, none⟩ y)))) := fun W x y h => ⟨h.1.store Hne1.out x y, h.2.1.store Hne2.out x y, below_store h.2.2.1 Hle.out x y, h.2.2.2.store x y⟩
  have S5 : AtC w5 w.heap.size (.int .i64 n) (.slice A xs.length c) ∧ AtC w5 w1.heap.size (.int .i64 m) (.slice A' ys.length c') ∧ Hid (Below w.heap.size w w5 ∧ Res w2.heap.size w5) := ⟨At1_5.out, At2_5.out, B5.out, Rs3_5.out⟩
  have ho0 : OwnV 3 (w5.alloc (.cells #[] 3)).drew w5.heap.size (.slice (some ⟨w5.heap.size, 0, none⟩) 0 0) (ints []) := own_empty _ _
  have hba : Below w5.heap.size w5 (w5.alloc (.cells #[] 3)).drew := (below_alloc w5 _).drew
  have hr0 := now_ R5.out hba
  have hz0 : w5.heap.size ≤ (w5.alloc (.cells #[] 3)).drew.heap.size := hba.size
  go_wp2
  go_region_held3 (fun W => ((W.cell? ⟨w.heap.size, 0, none⟩ = some (.int .i64 n) ∧ W.cell? ⟨w.heap.size, 1, none⟩ = some (.slice A xs.length c)) ∧ (W.cell? ⟨w1.heap.size, 0, none⟩ = some (.int .i64 m) ∧ W.cell? ⟨w1.heap.size, 1, none⟩ = some (.slice A' ys.length c')) ∧ Hid (Below w.heap.size w W ∧ Res w2.heap.size W))) (first | exact ⟨⟨a5_0, a5_1⟩, ⟨p5_0, p5_1⟩, Sx⟩ | exact hK.out _ _ S5 (by assumption) | exact hK.out _ _ (by assumption) (by assumption) | exact hKs.out _ _ _ (by assumption) | assumption | go_keep) (first | (refine step_appL ho0 hr0 Try.underlying36 infoI rfl _ _ rfl rfl rfl hlen0 hz0 ?_; intro v6 w6 ho6 hb6; have hbb6 := hba.trans hb6; have hr6 := now_ K5.out hbb6; have hz6 := hbb6.size) | (refine step_appL ho6 hr6 Try.underlying36 infoI rfl _ _ rfl rfl rfl hlen1 hz6 ?_; intro v7 w7 ho7 hb7; have hbb7 := hbb6.trans hb7) | (go_at_call 131; rename_i hS _ _; have hRs := hS.2.2.2; have hBs := hS.2.2.1; refine (l3MakeS n _ _ _ (own_reads ho7) hlen2 Hall.out).mono ?_; rintro e w9 ⟨v9, rfl, o9, b9⟩; rw [Hmax.out] at o9; obtain ⟨A9, c9, rfl⟩ := own_shape o9; obtain ⟨⟨q0, q1, h90, h91⟩, f90, f91⟩ := hRs.to b9; have h9r := (hRs.to b9).lt))
  all_goals (
    have Hfar := hide (fun j hj => Nat.lt_of_lt_of_le hRs.lt (own_block o9 j hj).1)
    have Ho := hide (own_mono o9 hBs.size)
    have Hb := hide (nxt hBs b9)
    clear o9 b9 hRs hBs
    go_wp2
    refine bodyPost_ret (v := .tuple #[.agg #[.int .i64 (n), .slice A9 (zs (maxOf (fun s => faceP xs s || faceP ys s))).length c9], .bool true]) (by simp [results, Try.results74, go_sem, h90, h91]) rfl ?_
    refine retCB_yes Hok.out (own_setNe (own_setNe Ho.out (fun j hj => by have := Hfar.out j hj; omega) _ _) (fun j hj => by have := Hfar.out j hj; omega) _ _) (below_store Hb.out Hle.out _ _))
end

/- Walks: MeetOf in the reference. Printed by gen/w47.py. -/
section
open Go.RowKit

def meetN (x y : Nat) : Nat := x &&& y
theorem prods_all {f : Nat → Nat → Nat} {xs ys : List Int} (h : ∀ x ∈ xs, ∀ y ∈ ys, f x.toNat y.toNat < 64) : allSets (zs (prods f xs ys)) = true :=
  allSets_zs fun s hs => by
    obtain ⟨x, hx, y, hy, rfl⟩ := mem_prods.1 hs
    exact h x hx y hy
theorem meet_all {n : Int} {xs ys : List Int} (h : isCx n xs = true) : allSets (zs (prods meetN xs ys)) = true :=
  prods_all fun x hx y _ => by
    have h1 := isCx_sets h x hx
    have h2 : x.toNat &&& y.toNat ≤ x.toNat := Nat.and_le_left
    show x.toNat &&& y.toNat < 64
    omega
theorem meet_max {n : Int} {xs ys : List Int} (h : isCx n xs = true) : maxOf (inList (zs (prods meetN xs ys))) = maxOf (fun s => faceP xs s && faceP ys s) := by
  rw [maxOf_list (meet_all h)]
  congr 1
  funext s
  exact meet_faces xs ys s

theorem meetOfS (n : Int) (v : Value) (xs : List Int) (m : Int) (u : Value) (ys : List Int) (w : World) (h : IntsAt w w.heap.size v xs) (k : IntsAt w w.heap.size u ys) (hl : xs.length ≤ 1048576) (kl : ys.length ≤ 1048576) :
    Calls Try.prog 76 #[.agg #[.int .i64 n, v], .agg #[.int .i64 m, u]] w fun e w' => RetCB 3 w (cbN (sameOk n m xs ys) (n)) (cbXs (sameOk n m xs ys) (maxOf (fun s => faceP xs s && faceP ys s))) (sameOk n m xs ys) e w' := by
  obtain ⟨A, c, rfl⟩ := reads_shape h
  obtain ⟨A', c', rfl⟩ := reads_shape k
  obtain ⟨w1, hW1, at1, b1, z1⟩ := boxC w (.int .i64 n) (.slice A xs.length c) 42
  obtain ⟨w2, hW2, at2, b2, z2⟩ := boxC w1 (.int .i64 m) (.slice A' ys.length c') 42
  obtain ⟨w3, hW3, at3, rs3, b3, z3⟩ := boxRes w2 42
  have b02 := nxt b1 b2
  have b03 := nxt b02 b3
  have R3 := hide (now_ h b03)
  have K3 := hide (now_ k b03)
  have at1 := (at1.to b2).to b3
  have at2 := at2.to b3
  have At1 := hide at1
  have At2 := hide at2
  have At3 := hide at3
  have Rs3 := hide rs3
  have B3 := hide b03
  have Hle : Hid (w.heap.size ≤ w2.heap.size) := by show _ ≤ _; omega
  have Hne1 : Hid (w.heap.size ≠ w2.heap.size) := by show _ ≠ _; omega
  have Hne2 : Hid (w1.heap.size ≠ w2.heap.size) := by show _ ≠ _; omega
  obtain ⟨e1_0, e1_1⟩ := at1
  obtain ⟨e2_0, e2_1⟩ := at2
  obtain ⟨e3_0, e3_1⟩ := at3
  clear h k b1 b2 b3 b02 b03 z1 z2 z3 rs3
  cases hca : isCx n xs
  · have Hca := hide hca
    have Hok : Hid (sameOk n m xs ys = false) := by show _ = _; unfold sameOk; rw [hca]; rfl
    clear hca
    go_enter Try.func76, Try.ntmps76
    go_wp2_with fail
    clear hW1 hW2 hW3
    refine (isComplexS n _ xs w3 R3.out (by omega)).mono ?_
    rw [Hca.out]
    rintro e w4 ⟨rfl, b4⟩
    obtain ⟨q4_0, q4_1⟩ := At3.out.to b4
    obtain ⟨_, f40, f41⟩ := (Rs3.out).to b4
    have hr4 : w2.heap.size < w4.heap.size := ((Rs3.out).to b4).lt
    have B4 := hide (nxt B3.out b4)
    clear b4 e1_0 e1_1 e2_0 e2_1 e3_0 e3_1
    go_wp2
    refine bodyPost_ret (v := .tuple #[.agg #[.int .i64 0, .slice none 0 0], .bool false]) (by simp [results, Try.results76, go_sem, q4_0, q4_1]) rfl ?_
    exact retCB_no Hok.out (below_store B4.out Hle.out _ _)
  have Hca := hide hca
  cases hcb : isCx m ys
  · have Hcb := hide hcb
    have Hok : Hid (sameOk n m xs ys = false) := by show _ = _; unfold sameOk; rw [hca, hcb]; rfl
    clear hca hcb
    go_enter Try.func76, Try.ntmps76
    go_wp2_with fail
    clear hW1 hW2 hW3
    refine (isComplexS n _ xs w3 R3.out (by omega)).mono ?_
    rw [Hca.out]
    rintro e w4 ⟨rfl, b4⟩
    have R4 := hide (now_ R3.out b4)
    have K4 := hide (now_ K3.out b4)
    have At1_4 := hide (At1.out.to b4)
    have At2_4 := hide (At2.out.to b4)
    have At3_4 := hide (At3.out.to b4)
    have Rs3_4 := hide (Rs3.out.to b4)
    have B4 := hide (nxt B3.out b4)
    obtain ⟨p4_0, p4_1⟩ := At2_4.out
    clear b4 e1_0 e1_1 e2_0 e2_1 e3_0 e3_1
    go_wp2_with fail
    refine (isComplexS m _ ys w4 K4.out (by omega)).mono ?_
    rw [Hcb.out]
    rintro e w5 ⟨rfl, b5⟩
    obtain ⟨q5_0, q5_1⟩ := At3_4.out.to b5
    obtain ⟨_, f50, f51⟩ := (Rs3_4.out).to b5
    have hr5 : w2.heap.size < w5.heap.size := ((Rs3_4.out).to b5).lt
    have B5 := hide (nxt B4.out b5)
    clear b5 p4_0 p4_1
    go_wp2
    refine bodyPost_ret (v := .tuple #[.agg #[.int .i64 0, .slice none 0 0], .bool false]) (by simp [results, Try.results76, go_sem, q5_0, q5_1]) rfl ?_
    exact retCB_no Hok.out (below_store B5.out Hle.out _ _)
  have Hcb := hide hcb
  by_cases hnm : ¬ (n = m)
  · skip
    have Hok : Hid (sameOk n m xs ys = false) := by show _ = _; unfold sameOk; rw [hca, hcb, decide_eq_false hnm]; rfl
    have hq : (n != m) = true := by simp [hnm]
    clear hca hcb hnm
    go_enter Try.func76, Try.ntmps76
    go_wp2_with fail
    clear hW1 hW2 hW3
    refine (isComplexS n _ xs w3 R3.out (by omega)).mono ?_
    rw [Hca.out]
    rintro e w4 ⟨rfl, b4⟩
    have R4 := hide (now_ R3.out b4)
    have K4 := hide (now_ K3.out b4)
    have At1_4 := hide (At1.out.to b4)
    have At2_4 := hide (At2.out.to b4)
    have At3_4 := hide (At3.out.to b4)
    have Rs3_4 := hide (Rs3.out.to b4)
    have B4 := hide (nxt B3.out b4)
    obtain ⟨p4_0, p4_1⟩ := At2_4.out
    clear b4 e1_0 e1_1 e2_0 e2_1 e3_0 e3_1
    go_wp2_with fail
    refine (isComplexS m _ ys w4 K4.out (by omega)).mono ?_
    rw [Hcb.out]
    rintro e w5 ⟨rfl, b5⟩
    obtain ⟨q5_0, q5_1⟩ := At3_4.out.to b5
    obtain ⟨_, f50, f51⟩ := (Rs3_4.out).to b5
    have hr5 : w2.heap.size < w5.heap.size := ((Rs3_4.out).to b5).lt
    obtain ⟨a5_0, a5_1⟩ := At1_4.out.to b5
    obtain ⟨p5_0, p5_1⟩ := At2_4.out.to b5
    have B5 := hide (nxt B4.out b5)
    clear b5 p4_0 p4_1
    go_wp2
    refine bodyPost_ret (v := .tuple #[.agg #[.int .i64 0, .slice none 0 0], .bool false]) (by simp [results, Try.results76, go_sem, q5_0, q5_1]) rfl ?_
    exact retCB_no Hok.out (below_store B5.out Hle.out _ _)
  have hnm := Decidable.not_not.1 hnm
  have Hok : Hid (sameOk n m xs ys = true) := by show _ = _; unfold sameOk; rw [hca, hcb, decide_eq_true hnm]; rfl
  have hq : (n != m) = false := by simp [hnm]
  have Hnm := hide hnm
  clear hca hcb hnm
  have Hl1 := hide (cx_len Hca.out)
  have Hl2 := hide (cx_len Hcb.out)
  have Hmax := hide (meet_max (ys := ys) Hca.out)
  have Hall := hide (meet_all (ys := ys) Hca.out)
  have Hlz : Hid ((zs (prods meetN xs ys)).length ≤ 1073741824) := by show _ ≤ _; rw [List.length_map, prods_len]; have h2 : xs.length * ys.length ≤ 448 * 448 := Nat.mul_le_mul Hl1.out Hl2.out; omega
  go_enter Try.func76, Try.ntmps76
  go_wp2_with fail
  clear hW1 hW2 hW3
  refine (isComplexS n _ xs w3 R3.out (by omega)).mono ?_
  rw [Hca.out]
  rintro e w4 ⟨rfl, b4⟩
  have R4 := hide (now_ R3.out b4)
  have K4 := hide (now_ K3.out b4)
  have At1_4 := hide (At1.out.to b4)
  have At2_4 := hide (At2.out.to b4)
  have At3_4 := hide (At3.out.to b4)
  have Rs3_4 := hide (Rs3.out.to b4)
  have B4 := hide (nxt B3.out b4)
  obtain ⟨p4_0, p4_1⟩ := At2_4.out
  clear b4 e1_0 e1_1 e2_0 e2_1 e3_0 e3_1
  go_wp2_with fail
  refine (isComplexS m _ ys w4 K4.out (by omega)).mono ?_
  rw [Hcb.out]
  rintro e w5 ⟨rfl, b5⟩
  obtain ⟨a5_0, a5_1⟩ := At1_4.out.to b5
  obtain ⟨p5_0, p5_1⟩ := At2_4.out.to b5
  have R5 := hide (now_ R4.out b5)
  have K5 := hide (now_ K4.out b5)
  have At1_5 := hide (At1_4.out.to b5)
  have At2_5 := hide (At2_4.out.to b5)
  have Rs3_5 := hide (Rs3_4.out.to b5)
  have B5 := hide (nxt B4.out b5)
  clear b5 p4_0 p4_1
  have He1 := hide (cxElems R5.out Hca.out)
  have He2 := hide (cxElems K5.out Hcb.out)
  obtain ⟨ho, hbw⟩ : OwnV 3 (w5.alloc (.cells #[] 3)) w5.heap.size (.slice (some ⟨w5.heap.size, 0, none⟩) 0 0) (ints (zs (prodTo (meetN) xs ys 0 0))) ∧ Below w5.heap.size w5 (w5.alloc (.cells #[] 3)) := ⟨by rw [prodTo_zero]; exact own_empty _ _, below_alloc _ _⟩
  have Ho := hide ho
  have Hbw := hide hbw
  clear ho hbw
  go_wp2_with fail
  clear a5_0 a5_1 p5_0 p5_1
  go_loopw [6, 7, 8] (fun v i _ wr => ∃ k : Nat, k ≤ xs.length ∧ i = .int .i64 k ∧ Hid (OwnV 3 wr w5.heap.size v (ints (zs (prodTo (meetN) xs ys k 0)))) ∧ Hid (Below w5.heap.size w5 wr)) (fun _ i _ _ => xs.length - (intOf i).toNat)
  case atStart => exact ⟨0, by omega, rfl, Ho, Hbw⟩
  case round =>
    obtain ⟨k, hk, rfl, hown, hb⟩ := hrel
    obtain ⟨a6_0, a6_1⟩ := At1_5.out.to hb.out
    obtain ⟨p6_0, p6_1⟩ := At2_5.out.to hb.out
    by_cases hlt : k < xs.length
    · obtain ⟨b1, o1, x, ⟨c1, hv1⟩, hx, hx64, hcx0⟩ := He1.out k hlt
      cases hv1
      have Hx := hide hx
      clear hx
      go_wp2_with fail
      go_loopw [6, 8] (fun v i wi => ∃ j : Nat, j ≤ ys.length ∧ i = .int .i64 j ∧ Hid (OwnV 3 wi w5.heap.size v (ints (zs (prodTo (meetN) xs ys k j)))) ∧ Hid (Below w5.heap.size w5 wi)) (fun _ i _ => ys.length - (intOf i).toNat)
      case atStart => exact ⟨0, by omega, rfl, hown, hb⟩
      case round =>
        obtain ⟨j, hj, rfl, hown2, hb2⟩ := hrel
        obtain ⟨a7_0, a7_1⟩ := At1_5.out.to hb2.out
        obtain ⟨p7_0, p7_1⟩ := At2_5.out.to hb2.out
        by_cases hlt2 : j < ys.length
        · obtain ⟨b2, o2, y, ⟨c2, hv2⟩, hy, hy64, hcy0⟩ := He2.out j hlt2
          cases hv2
          have hcx := (hb2.out.cell (p := ⟨b1, o1 + k, none⟩) (World.block_lt_of_cell? _ _ hcx0)).trans hcx0
          have hcy := (hb2.out.cell (p := ⟨b2, o2 + j, none⟩) (World.block_lt_of_cell? _ _ hcy0)).trans hcy0
          have Hstep := hide (prodTo_step (f := meetN) Hx.out hy)
          have Hy := hide hy
          have hlen : (zs (prodTo (meetN) xs ys k j)).length < 1000000 := by have h1 := prodTo_len (f := meetN) (xs := xs) (ys := ys) (i := k) (k := j); have h2 : (k + 1) * ys.length ≤ 449 * 448 := Nat.mul_le_mul (by have := Hl1.out; omega) Hl2.out; rw [List.length_map]; omega
          have hand := i64_and x y (by omega) (by omega)
          have hbd0 : Below w5.heap.size w5 wr.drew := hb2.out.drew
          have hbd1 : Below w5.heap.size w5 (wr.alloc (.cells #[.int .i64 ((x &&& y : Nat) : Int)] 3)).drew := (hb2.out.alloc hb2.out.size _).drew
          have hoa : OwnV 3 (wr.alloc (.cells #[.int .i64 ((x &&& y : Nat) : Int)] 3)).drew w5.heap.size _ (ints (zs (prodTo (meetN) xs ys k j))) := hown2.out.alloc _
          have hra : IntsAt (wr.alloc (.cells #[.int .i64 ((x &&& y : Nat) : Int)] 3)).drew _ (.slice (some ⟨wr.heap.size, 0, none⟩) 1 1) [((x &&& y : Nat) : Int)] := reads_new1 wr _ _
          have hza : w5.heap.size ≤ (wr.alloc (.cells #[.int .i64 ((x &&& y : Nat) : Int)] 3)).drew.heap.size := hbd1.size
          have hlen2 : (zs (prodTo (meetN) xs ys k j)).length + [((x &&& y : Nat) : Int)].length < 17179869184 := by show _ + 1 < _; omega
          have hS : Hid (∀ W : World, Below w5.heap.size w5 W → W.cell? ⟨w.heap.size, 0, none⟩ = some (.int .i64 n) ∧ W.cell? ⟨w.heap.size, 1, none⟩ = some (.slice (some ⟨b1, o1, none⟩) xs.length c) ∧ W.cell? ⟨w1.heap.size, 1, none⟩ = some (.slice (some ⟨b2, o2, none⟩) ys.length c') ∧ W.cell? ⟨b1, o1 + k, none⟩ = some (.int .i64 (x : Int)) ∧ W.cell? ⟨b2, o2 + j, none⟩ = some (.int .i64 (y : Int))) := fun W h => ⟨(h.cell (p := ⟨w.heap.size, 0, none⟩) At1_5.out.lt).trans At1_5.out.1, (h.cell (p := ⟨w.heap.size, 1, none⟩) At1_5.out.lt).trans At1_5.out.2, (h.cell (p := ⟨w1.heap.size, 1, none⟩) At2_5.out.lt).trans At2_5.out.2, (h.cell (p := ⟨b1, o1 + k, none⟩) (World.block_lt_of_cell? _ _ hcx0)).trans hcx0, (h.cell (p := ⟨b2, o2 + j, none⟩) (World.block_lt_of_cell? _ _ hcy0)).trans hcy0⟩
          clear hy
          go_wp2_with fail
          go_region_held3 (fun W => W.cell? ⟨w.heap.size, 0, none⟩ = some (.int .i64 n) ∧ W.cell? ⟨w.heap.size, 1, none⟩ = some (.slice (some ⟨b1, o1, none⟩) xs.length c) ∧ W.cell? ⟨w1.heap.size, 1, none⟩ = some (.slice (some ⟨b2, o2, none⟩) ys.length c') ∧ W.cell? ⟨b1, o1 + k, none⟩ = some (.int .i64 (x : Int)) ∧ W.cell? ⟨b2, o2 + j, none⟩ = some (.int .i64 (y : Int))) (first | with_reducible exact hS.out _ hbd0 | with_reducible exact hS.out _ hbd1 | with_reducible exact hS.out _ hbd7 | go_keep) (first | (refine step_appL hoa hra Try.underlying36 infoI rfl _ _ rfl rfl rfl hlen2 hza ?_; intro v7 w7 ho7 hb7; have hbd7 := hbd1.trans hb7))
          have Hown7 : Hid (OwnV 3 w7 w5.heap.size v7 (ints (zs (prodTo (meetN) xs ys k (j + 1))))) := by show OwnV _ _ _ _ _; rw [Hstep.out, zs_snoc]; exact ho7
          have Hb7 : Hid (Below w5.heap.size w5 w7) := hbd7
          go_wp2
          go_roundw
          case rel => exact ⟨j + 1, by omega, by go_num, Hown7, Hb7⟩
          case measure => simp [intOf]; omega
        · have hj2 : ys.length ≤ j := by omega
          have Hn := hide (prodTo_next (f := meetN) Hx.out hj2)
          have ho3 := hown2.out
          rw [← Hn.out] at ho3
          have Ho3 := hide ho3
          clear ho3 hown2
          go_wp2
          go_roundw
          case rel => exact ⟨k + 1, by omega, by go_num, Ho3, hb2⟩
          case measure => simp [intOf]; omega
    · have hk2 : xs.length ≤ k := by omega
      have ho3 := hown.out
      rw [prodTo_all hk2] at ho3
      have Ho3 := hide ho3
      have Rs6 := hide (Rs3_5.out.to hb.out)
      have B6 := hide (nxt B5.out hb.out)
      clear ho3 hown
      go_wp2_with fail
      refine (l3MakeS (n) _ _ wr (own_reads Ho3.out) Hlz.out Hall.out).mono ?_
      rintro e w9 ⟨v9, rfl, o9, b9⟩
      rw [Hmax.out] at o9
      obtain ⟨A9, c9, rfl⟩ := own_shape o9
      obtain ⟨⟨q0, q1, h90, h91⟩, f90, f91⟩ := Rs6.out.to b9
      have h9r := (Rs6.out.to b9).lt
      have hRs := Rs6.out
      have hBs := B6.out
      have Hfar := hide (fun j hj => Nat.lt_of_lt_of_le hRs.lt (own_block o9 j hj).1)
      have Ho := hide (own_mono o9 hBs.size)
      have Hb := hide (nxt hBs b9)
      clear o9 b9 hRs hBs
      go_wp2
      refine bodyPost_ret (v := .tuple #[.agg #[.int .i64 (n), .slice A9 (zs (maxOf (fun s => faceP xs s && faceP ys s))).length c9], .bool true]) (by simp [results, Try.results76, go_sem, h90, h91]) rfl ?_
      refine retCB_yes Hok.out (own_setNe (own_setNe Ho.out (fun j hj => by have := Hfar.out j hj; omega) _ _) (fun j hj => by have := Hfar.out j hj; omega) _ _) (below_store Hb.out Hle.out _ _)
end

/- Small laws on results that are complexes. -/
section
open Go.RowKit

theorem cbXs_64 (ok : Bool) (P : Nat → Bool) : (cbXs ok (maxOf P)).length ≤ 64 := by
  unfold cbXs
  split
  · rw [zs_len20]
    exact maxOf_64 P
  · simp
theorem asCB {P : Program} {f : Nat} {args : Array Value} {w : World} {e0 : TypeId} {N N' : Int} {xs xs' : List Int} {b b' : Bool} (h : Calls P f args w fun e w' => RetCB e0 w N xs b e w') (hN : N' = N) (hx : xs' = xs) (hb : b' = b) : Calls P f args w fun e w' => RetCB e0 w N' xs' b' e w' := by
  subst hN hx hb
  exact h
theorem asCB2 {P : Program} {f : Nat} {args : Array Value} {w : World} {e0 : TypeId} {N N' : Int} {xs xs' : List Int} {b b' : Bool} (h : Calls P f args w fun e w' => RetCB e0 w N xs b e w') (hN : N = N') (hx : xs = xs') (hb : b = b') : Calls P f args w fun e w' => RetCB e0 w N' xs' b' e w' := by
  subst hN hx hb
  exact h
theorem sameComplex_is {n m : Int} {xs ys : List Int} (hn : n = m) (hx : xs = ys) (v1 v2 : Value) (w : World) (h1 : IntsAt w w.heap.size v1 xs) (h2 : IntsAt w w.heap.size v2 ys) (hl : xs.length ≤ 1073741824) :
    Calls Try.prog 77 #[.agg #[.int .i64 n, v1], .agg #[.int .i64 m, v2]] w fun e w' => RetB w true e w' := by
  subst hn hx
  exact sameComplex_same n v1 v2 xs w h1 h2 hl
end
end Go.Proofs.Ytmkacjpjcfffmaa
