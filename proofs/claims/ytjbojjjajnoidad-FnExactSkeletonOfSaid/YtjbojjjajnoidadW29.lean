/- Walks: SkeletonOf in the reference. Printed by gen/w29.py. -/
import Derived.Test.YtjbojjjajnoidadW28
import Derived.Test.YtjbojjjajnoidadAt
namespace Go.Proofs.Ytjbojjjajnoidad
open Go.RowKit

theorem skel_max {xs : List Int} {t : Int} : maxOf (inList (zs ((listOf (faceP xs)).filter (fun u => decide ((pc u : Int) ≤ t))))) = maxOf (skelP (faceP xs) t) := by
  apply maxOf_congr
  intro u hu
  rw [Bool.eq_iff_iff, mem_zs, List.mem_filter, mem_listOf]
  unfold skelP
  rw [Bool.and_eq_true]
  exact ⟨fun h => ⟨h.1.2, h.2⟩, fun h => ⟨⟨hu, h.1⟩, h.2⟩⟩
theorem retCB_skel {w w' : World} {ok : Bool} {n t : Int} {xs : List Int} {fs : List Nat} (h : ok = true) (hl : listOf (faceP xs) = fs) {v : Value} (ho : OwnV 3 w' w.heap.size v (ints (zs (maxOf (inList (zs (fs.filter (fun u => decide ((pc u : Int) ≤ t))))))))) (hb : Below w.heap.size w w') : RetCB 3 w (cbN ok n) (cbXs ok (maxOf (skelP (faceP xs) t))) ok (.returned (.tuple #[.agg #[.int .i64 n, v], .bool true])) w' := by
  rw [← hl, skel_max] at ho
  exact retCB_yes h ho hb
theorem skeletonOfS (n : Int) (v : Value) (xs : List Int) (t : Int) (w : World) (h : IntsAt w w.heap.size v xs) (hl : xs.length ≤ 1048576) :
    Calls Try.prog 16 #[.agg #[.int .i64 n, v], .int .i64 t] w fun e w' => RetCB 3 w (cbN (skOk n xs t) n) (cbXs (skOk n xs t) (maxOf (skelP (faceP xs) t))) (skOk n xs t) e w' := by
  obtain ⟨A, c, rfl⟩ := reads_shape h
  obtain ⟨w1, hW1, at1, b1, z1⟩ := boxC w (.int .i64 n) (.slice A xs.length c) 26
  obtain ⟨w2i, hW2, at2, rs2, b2, z2⟩ := boxRes w1 26
  have b02 := nxt b1 b2
  have R2i := hide (now_ h b02)
  have at1 := at1.to b2
  have At1i := hide at1
  have At2i := hide at2
  obtain ⟨e1, e2⟩ := at1
  have Rs2i := hide rs2
  have B2i := hide b02
  have Hle : Hid (w.heap.size ≤ w1.heap.size) := by show _ ≤ _; omega
  clear h at2 rs2 b1 b2 b02 z1 z2
  cases hcx : isCx n xs
  · have Hcx := hide hcx
    clear hcx
    have Hok : Hid (skOk n xs t = false) := by show _ = _; unfold skOk; rw [Hcx.out]; rfl
    go_enter Try.func16, Try.ntmps16
    go_wp2_with fail
    clear hW1 hW2
    refine (isComplexS n _ xs w2i R2i.out (by omega)).mono ?_
    rw [Hcx.out]
    rintro e w3 ⟨rfl, b3⟩
    obtain ⟨e3_0, e3_1⟩ := At2i.out.to b3
    obtain ⟨_, f0, f1⟩ := Rs2i.out.to b3
    have hr : w1.heap.size < w3.heap.size := (Rs2i.out.to b3).lt
    have B3 := hide (nxt B2i.out b3)
    clear b3 e1 e2
    go_wp2
    refine bodyPost_ret (v := .tuple #[.agg #[.int .i64 0, .slice none 0 0], .bool false]) (by simp [results, Try.results16, go_sem, e3_0, e3_1]) rfl ?_
    exact retCB_no Hok.out (below_store B3.out Hle.out _ _)
  · have Hcx := hide hcx
    clear hcx
    by_cases ht : 0 ≤ t ∧ t ≤ 6
    · have Hin : Hid (inB t 0 6 = true) := inB_mk ht
      have Hok : Hid (skOk n xs t = true) := by show _ = _; unfold skOk; rw [Hcx.out, decide_eq_true ht]; rfl
      clear ht
      go_enter Try.func16, Try.ntmps16
      go_wp2_with fail
      clear hW1 hW2
      refine (isComplexS n _ xs w2i R2i.out (by omega)).mono ?_
      rw [Hcx.out]
      rintro e w2 ⟨rfl, b3⟩
      have R2 := hide (now_ R2i.out b3)
      have At1 := hide (At1i.out.to b3)
      have Rs2 := hide (Rs2i.out.to b3)
      have B2 := hide (nxt B2i.out b3)
      clear b3 e1 e2
      obtain ⟨w3b, hW3, ho, hbw⟩ : ∃ W, w2.alloc (.cells #[] 3) = W ∧ OwnV 3 W w2.heap.size (.slice (some ⟨w2.heap.size, 0, none⟩) 0 0) (ints (zs (((listOf (faceP xs)).take 0).filter (fun u => decide ((pc u : Int) ≤ t))))) ∧ Below w2.heap.size w2 W := ⟨_, rfl, own_empty _ _, below_alloc _ _⟩
      have Ho := hide ho
      have Hbw := hide hbw
      have R3 := hide (now_ R2.out hbw)
      obtain ⟨e31, e32⟩ := At1.out.to hbw
      clear ho hbw
      go_wp2_with (go_at_call 96; refine (l1InS _ _ _ _).mono ?_; rw [Hin.out]; rintro e wx ⟨rfl, rfl⟩)
      clear hW3 e31 e32
      refine (facesOfS n _ xs _ R3.out (by omega)).mono ?_
      rw [facesOf_yes Hcx.out]
      rintro e w4 ⟨v4, rfl, o4, b4⟩
      have Hdis : Hid (∀ j, Value.ownBlock (.slice (some ⟨w2.heap.size, 0, none⟩) 0 0) = some j → Value.ownBlock v4 ≠ some j) := fun j hj e => by
        have h1 := (own_block Ho.out j hj).2
        have h2 := (own_block o4 j e).1
        omega
      have Ho4b := hide o4
      have Hb4 := hide (nxt Hbw.out b4)
      have Ho4 := hide (own_below Ho.out b4)
      have Hf4 := hide (own_reads o4)
      have Hlen : Hid ((listOf (faceP xs)).length ≤ 448) := listOf_len _
      have Hmem : Hid (∀ u ∈ listOf (faceP xs), u < 64) := fun u hu => (mem_listOf.1 hu).1
      clear o4 b4
      generalize hl0 : listOf (faceP xs) = fs at Hf4 Hlen Hmem Ho4b
      have hlen448 := Hlen.out
      obtain ⟨A4, c4, hv4, _, he4⟩ := form_ Hf4.out
      have hfl : (zs fs).length = fs.length := List.length_map _
      rw [hfl] at hv4 he4
      subst hv4
      clear he4 hfl
      go_wp2_with fail
      go_loopw [6, 8] (fun v i wr => ∃ k : Nat, k ≤ fs.length ∧ i = .int .i64 k ∧ Hid (OwnV 3 wr w2.heap.size v (ints (zs ((fs.take k).filter (fun u => decide ((pc u : Int) ≤ t)))))) ∧ Hid (Below w2.heap.size w2 wr) ∧ Hid (OwnV 3 wr w3b.heap.size (.slice A4 fs.length c4) (ints (zs fs))) ∧ Hid (∀ j, Value.ownBlock v = some j → Value.ownBlock (.slice A4 fs.length c4) ≠ some j)) (fun _ i _ => fs.length - (intOf i).toNat)
      case atStart => exact ⟨0, by omega, rfl, by rw [← hl0]; exact Ho4, Hb4, Ho4b, Hdis⟩
      case round =>
        obtain ⟨k, hk, rfl, hown, hb, hfs, hdis⟩ := hrel
        by_cases hlt : k < fs.length
        · obtain ⟨A5, c5, hv5, _, he5⟩ := form_ (own_reads hfs.out)
          have hfl5 : (zs fs).length = fs.length := List.length_map _
          rw [hfl5] at hv5
          cases hv5
          obtain ⟨b, o, x', hA5, hbb, hx, hcell⟩ := he5 k (by rw [hfl5]; exact hlt)
          subst hA5
          clear he5 hfl5
          obtain ⟨x, rfl, hx'⟩ : ∃ x : Nat, x' = (x : Int) ∧ fs[k]? = some x := by
            rw [show zs fs = fs.map Int.ofNat from rfl, List.getElem?_map] at hx
            cases hfk : fs[k]? with
            | none => rw [hfk] at hx; simp at hx
            | some y => rw [hfk] at hx; simp at hx; exact ⟨y, hx.symm, rfl⟩
          have hx64 := Hmem.out x (List.mem_of_getElem? hx')
          have Ht := hide (take_snoc _ _ _ hx')
          have hlen : (zs ((fs.take k).filter (fun u => decide ((pc u : Int) ≤ t)))).length < 17179869184 := by
            have h1 := List.length_filter_le (fun u => decide ((pc u : Int) ≤ t)) (fs.take k)
            have h2 := List.length_take_le k fs
            rw [List.length_map]; omega
          have hsz := hb.out.size
          have ho := hown.out
          have hxb : (x : Int) ≤ 9223372036854775807 := by omega
          have hq : decide ((pc x : Int) ≤ t) = decide ((pc x : Int) ≤ t) := rfl
          clear hx hx' hbb
          cases hsub : (decide ((pc x : Int) ≤ t))
          · have Hn : Hid ((fs.take (k + 1)).filter (fun u => decide ((pc u : Int) ≤ t)) = (fs.take k).filter (fun u => decide ((pc u : Int) ≤ t))) := by show _ = _; rw [Ht.out, List.filter_append]; simp only [List.filter_cons, List.filter_nil]; rw [hsub]; simp
            have hq2 := hsub
            clear hsub hq
            go_wp2_with (go_at_call 97; refine (l2SizeS _ _ hxb).mono ?_; rw [Int.toNat_natCast]; rintro e wx ⟨rfl, rfl⟩)
            go_roundw
            case rel => exact ⟨k + 1, by omega, by go_num, by rw [Hn.out]; exact hown, hb, hfs, hdis⟩
            case measure => simp [intOf]; omega
          · have Hy : Hid ((fs.take (k + 1)).filter (fun u => decide ((pc u : Int) ≤ t)) = (fs.take k).filter (fun u => decide ((pc u : Int) ≤ t)) ++ [x]) := by show _ = _; rw [Ht.out, List.filter_append]; simp only [List.filter_cons, List.filter_nil]; rw [hsub]; simp
            have hq2 := hsub
            clear hsub hq
            go_wp2_with (first | (at_builtin; refine wpList_appAt ho (x : Int) Try.underlying22 infoI rfl _ _ rfl rfl rfl hlen hsz ?_; intro v' w5 hown5 hb5 hg5 hat5) | (go_at_call 97; refine (l2SizeS _ _ hxb).mono ?_; rw [Int.toNat_natCast]; rintro e wx ⟨rfl, rfl⟩))
            have Hown5 : Hid (OwnV 3 w5 w2.heap.size v' (ints (zs ((fs.take (k + 1)).filter (fun u => decide ((pc u : Int) ≤ t)))))) := by show OwnV _ _ _ _ _; rw [Hy.out, zs_snoc]; exact hown5
            have Hb5 : Hid (Below w2.heap.size w2 w5) := hb.out.trans hb5
            have Hfs5 := hide (own_grown hfs.out hg5 (fun j hj e => hdis.out j e hj))
            have Hdis5 : Hid (∀ j, Value.ownBlock v' = some j → Value.ownBlock (.slice (some ⟨b, o, none⟩) fs.length c4) ≠ some j) := by
              intro j hj e
              rcases hat5 with h | h
              · exact hdis.out j (h.symm.trans hj) e
              · rw [h] at hj
                have h1 := (own_block hfs.out j e).2
                have h2 := Option.some.inj hj
                omega
            go_wp2
            go_roundw
            case rel => exact ⟨k + 1, by omega, by go_num, Hown5, Hb5, Hfs5, Hdis5⟩
            case measure => simp [intOf]; omega
        · have hk2 : fs.length ≤ k := by omega
          have Ht := hide (take_all fs k hk2)
          have hlen : (zs (fs.filter (fun u => decide ((pc u : Int) ≤ t)))).length ≤ 1073741824 := by
            have h1 := List.length_filter_le (fun u => decide ((pc u : Int) ≤ t)) fs
            rw [List.length_map]; omega
          have hown2 := hown.out
          rw [Ht.out] at hown2
          have Hown := hide hown2
          have Hall : Hid (allSets (zs (fs.filter (fun u => decide ((pc u : Int) ≤ t)))) = true) := zs_all (fun u hu => Hmem.out u (List.mem_filter.1 hu).1)
          obtain ⟨e1, e2⟩ := At1.out.to hb.out
          clear hown hown2 hfs hdis
          go_wp2_with fail
          refine (l3MakeS n _ (zs (fs.filter (fun u => decide ((pc u : Int) ≤ t)))) wr (own_reads Hown.out) hlen Hall.out).mono ?_
          rintro e w6 ⟨v', rfl, o6, b6⟩
          obtain ⟨A', c', rfl⟩ := own_shape o6
          obtain ⟨h90, f90, f91⟩ := (Rs2.out.to hb.out).to b6
          obtain ⟨q0, q1, h90, h91⟩ := h90
          have h9r := ((Rs2.out.to hb.out).to b6).lt
          have Hfar := hide (fun k hk => Nat.lt_of_lt_of_le (Rs2.out.to hb.out).lt (own_block o6 k hk).1)
          have Ho6 := hide (own_mono o6 (nxt B2.out hb.out).size)
          have Hb6 := hide (nxt (nxt B2.out hb.out) b6)
          have Hl0 := hide hl0
          clear o6 b6 hl0
          go_wp2
          refine bodyPost_ret (v := .tuple #[.agg #[.int .i64 n, .slice A' (zs (maxOf (inList (zs (fs.filter (fun u => decide ((pc u : Int) ≤ t))))))).length c'], .bool true]) (by simp [results, Try.results16, go_sem, h90, h91]) rfl ?_
          exact retCB_skel Hok.out Hl0.out (own_setNe (own_setNe Ho6.out (fun k hk => by have := Hfar.out k hk; omega) _ _) (fun k hk => by have := Hfar.out k hk; omega) _ _) (below_store Hb6.out Hle.out _ _)
    · have Hin : Hid (inB t 0 6 = false) := inB_no ht
      have Hok : Hid (skOk n xs t = false) := by show _ = _; unfold skOk; rw [Hcx.out, decide_eq_false ht]; rfl
      clear ht
      go_enter Try.func16, Try.ntmps16
      go_wp2_with fail
      clear hW1 hW2
      refine (isComplexS n _ xs w2i R2i.out (by omega)).mono ?_
      rw [Hcx.out]
      rintro e w3 ⟨rfl, b3⟩
      obtain ⟨e3_0, e3_1⟩ := At2i.out.to b3
      obtain ⟨_, f0, f1⟩ := Rs2i.out.to b3
      have hr : w1.heap.size < w3.heap.size := (Rs2i.out.to b3).lt
      have B3 := hide (nxt B2i.out b3)
      clear b3 e1 e2
      go_wp2_with (go_at_call 96; refine (l1InS _ _ _ _).mono ?_; rw [Hin.out]; rintro e wx ⟨rfl, rfl⟩)
      refine bodyPost_ret (v := .tuple #[.agg #[.int .i64 0, .slice none 0 0], .bool false]) (by simp [results, Try.results16, go_sem, e3_0, e3_1]) rfl ?_
      exact retCB_no Hok.out (below_store B3.out Hle.out _ _)
end Go.Proofs.Ytjbojjjajnoidad
