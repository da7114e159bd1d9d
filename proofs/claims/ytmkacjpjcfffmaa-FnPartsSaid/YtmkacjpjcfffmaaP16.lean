/- Texts of one kind, laid together (3 of them). -/
import Derived.Test.YtmkacjpjcfffmaaP1
import Derived.Test.YtmkacjpjcfffmaaP14
import Derived.Test.YtmkacjpjcfffmaaP15
namespace Go.Proofs.Ytmkacjpjcfffmaa
/- Walks: DeletionOf. Printed by gen/w24.py. -/
section
open Go.RowKit


def delP (P : Nat → Bool) (s t : Nat) : Bool := P t && !sub s t
theorem del1I (P : Nat → Bool) (s t : Nat) (hs : s < 64) (ht : t < 64) (b1 b2 : Nat) (w : World) (h1 : w.cell? ⟨b1, 0, none⟩ = some (.int .u64 (fam P : Int))) (h2 : w.cell? ⟨b2, 0, none⟩ = some (.int .i64 (s : Int))) :
    Calls Try.prog 160 #[.int .i64 (t : Int), .pointer (some ⟨b1, 0, none⟩), .pointer (some ⟨b2, 0, none⟩)] w fun e w' => e = .returned (.bool (delP P s t)) ∧ w = w' := by
  have hnb : (bits BinOp.andNot IntKind.i64 (s : Int) (t : Int) != 0) = !sub s t := by rw [← not_bitX hs ht]; rfl
  have hF := fam_lt P
  have Hb : Hid ((fam P).testBit t = P t) := by show _ = _; rw [fam_bit, decide_eq_true ht]; rfl
  cases hp : P t
  · have H : Hid (delP P s t = false) := by show _ = _; unfold delP; rw [hp]; rfl
    have hb := Hb.out
    rw [hp] at hb
    clear hp hnb
    go_enter Try.func160, Try.ntmps160
    go_wp2_with (go_at_call 130; refine (hasSetI _ _ hF ht _).mono ?_; rw [hb]; rintro e wx ⟨rfl, rfl⟩)
    go_ret
    exact ⟨ret_bool H.out.symm, rfl⟩
  · have H : Hid (delP P s t = !sub s t) := by show _ = _; unfold delP; rw [hp]; rfl
    have hb := Hb.out
    rw [hp] at hb
    clear hp
    go_enter Try.func160, Try.ntmps160
    go_wp2_with (go_at_call 130; refine (hasSetI _ _ hF ht _).mono ?_; rw [hb]; rintro e wx ⟨rfl, rfl⟩)
    go_ret
    exact ⟨ret_bool H.out.symm, rfl⟩
theorem enter_del1 (args : Array Value) (W : World) : (callFunc 160 args).run Try.prog W = .ok (.enter 160 args) W := call_enter Try.func160 (by kernel_rfl) rfl args W
theorem deletionInI (P : Nat → Bool) (s : Nat) (hs : s < 64) (w : World) : Calls Try.prog 132 #[.int .u64 (fam P : Int), .int .i64 (s : Int)] w fun e w' => e = .returned (.int .u64 (fam (delP P s) : Int)) ∧ Below w.heap.size w w' := by
  have Hp := hide (fun (W : World) (h1 : W.cell? ⟨w.heap.size, 0, none⟩ = some (.int .u64 (fam P : Int))) (h2 : W.cell? ⟨w.heap.size + 1, 0, none⟩ = some (.int .i64 (s : Int))) => pick64 160 #[.pointer (some ⟨w.heap.size, 0, none⟩), .pointer (some ⟨w.heap.size + 1, 0, none⟩)] (delP P s) W enter_del1 (fun t ht => del1I P s t hs ht _ _ W h1 h2))
  go_enter Try.func132, Try.ntmps132
  go_wp2_with fail
  refine (Hp.out _ (by simp [go_sem]) (by simp [go_sem])).mono ?_
  rintro e w1 ⟨rfl, rfl⟩
  go_wp2
  go_ret
  exact ⟨rfl, (below_alloc w _).alloc (by (try simp only [World.size_alloc]); omega) _⟩

theorem l5WithoutS (n : Int) (v : Value) (xs : List Int) (s : Nat) (w : World) (h : IntsAt w w.heap.size v xs) (hl : xs.length ≤ 1048576) (hcx : isCx n xs = true) (hs : s < 64) :
    Calls Try.prog 133 #[.agg #[.int .i64 n, v], .int .i64 (s : Int)] w fun e w' => RetC 3 w n (zs (maxOf (inList (zs ((listOf (faceP xs)).filter (fun u => !sub s u)))))) e w' := by
  obtain ⟨A, c, rfl⟩ := reads_shape h
  obtain ⟨w1, hW1, at1, b1, z1⟩ := boxC w (.int .i64 n) (.slice A xs.length c) 42
  obtain ⟨w2, hW2, at2, rs2, b2, z2⟩ := boxRes w1 42
  have b02 := nxt b1 b2
  have R2 := hide (now_ h b02)
  have at1 := at1.to b2
  have At1 := hide at1
  obtain ⟨e1, e2⟩ := at1
  have Rs2 := hide rs2
  have B2 := hide b02
  have hle : w.heap.size ≤ w1.heap.size := by omega
  have Hle := hide hle
  have Hcx := hide hcx
  clear h at2 rs2 b1 b2 b02 z1 z2 hle hcx
  obtain ⟨w3b, hW3, ho, hbw⟩ : ∃ W, w2.alloc (.cells #[] 3) = W ∧ OwnV 3 W w2.heap.size (.slice (some ⟨w2.heap.size, 0, none⟩) 0 0) (ints (zs (((listOf (faceP xs)).take 0).filter (fun u => !sub s u)))) ∧ Below w2.heap.size w2 W := ⟨_, rfl, own_empty _ _, below_alloc _ _⟩
  have Ho := hide ho
  have Hbw := hide hbw
  have R3 := hide (now_ R2.out hbw)
  obtain ⟨e31, e32⟩ := At1.out.to hbw
  clear ho hbw
  go_enter Try.func133, Try.ntmps133
  go_wp2_with fail
  clear hW1 hW2 hW3 e1 e2 e31 e32
  refine (facesOfS n _ xs _ R3.out (by omega)).mono ?_
  rw [facesOf_yes Hcx.out]
  rintro e w4 ⟨v4, rfl, o4, b4⟩
  have Hdis : Hid (∀ j, Value.ownBlock (.slice (some ⟨w2.heap.size, 0, none⟩) 0 0) = some j → Value.ownBlock v4 ≠ some j) := fun j hj e => by
    have h1 := (own_block Ho.out j hj).2
    have h2 := (own_block o4 j e).1
    omega
  have Ho4b := hide o4
  have Hb4 := hide (nxt Hbw.out b4)
  have Ho4 := hide (own_below Ho.out b4)
  have Hf4 := hide (own_reads o4)
  have Hlen : Hid ((listOf (faceP xs)).length ≤ 448) := listOf_len _
  have Hmem : Hid (∀ u ∈ listOf (faceP xs), u < 64) := fun u hu => (mem_listOf.1 hu).1
  clear o4 b4
  generalize hl0 : listOf (faceP xs) = fs at Hf4 Hlen Hmem Ho4b
  have hlen448 := Hlen.out
  obtain ⟨A4, c4, hv4, _, he4⟩ := form_ Hf4.out
  have hfl : (zs fs).length = fs.length := List.length_map _
  rw [hfl] at hv4 he4
  subst hv4
  clear he4 hfl
  go_wp2_with fail
  go_loopw [5, 7] (fun v i wr => ∃ k : Nat, k ≤ fs.length ∧ i = .int .i64 k ∧ Hid (OwnV 3 wr w2.heap.size v (ints (zs ((fs.take k).filter (fun u => !sub s u))))) ∧ Hid (Below w2.heap.size w2 wr) ∧ Hid (OwnV 3 wr w3b.heap.size (.slice A4 fs.length c4) (ints (zs fs))) ∧ Hid (∀ j, Value.ownBlock v = some j → Value.ownBlock (.slice A4 fs.length c4) ≠ some j)) (fun _ i _ => fs.length - (intOf i).toNat)
  case atStart => exact ⟨0, by omega, rfl, by rw [← hl0]; exact Ho4, Hb4, Ho4b, Hdis⟩
  case round =>
    obtain ⟨k, hk, rfl, hown, hb, hfs, hdis⟩ := hrel
    by_cases hlt : k < fs.length
    · obtain ⟨A5, c5, hv5, _, he5⟩ := form_ (own_reads hfs.out)
      have hfl5 : (zs fs).length = fs.length := List.length_map _
      rw [hfl5] at hv5
      cases hv5
      obtain ⟨b, o, x', hA5, hbb, hx, hcell⟩ := he5 k (by rw [hfl5]; exact hlt)
      subst hA5
      clear he5 hfl5
      obtain ⟨x, rfl, hx'⟩ : ∃ x : Nat, x' = (x : Int) ∧ fs[k]? = some x := by
        rw [show zs fs = fs.map Int.ofNat from rfl, List.getElem?_map] at hx
        cases hfk : fs[k]? with
        | none => rw [hfk] at hx; simp at hx
        | some y => rw [hfk] at hx; simp at hx; exact ⟨y, hx.symm, rfl⟩
      have hx64 := Hmem.out x (List.mem_of_getElem? hx')
      have Ht := hide (take_snoc _ _ _ hx')
      have hlen : (zs ((fs.take k).filter (fun u => !sub s u))).length < 17179869184 := by
        have h1 := List.length_filter_le (fun u => !sub s u) (fs.take k)
        have h2 := List.length_take_le k fs
        rw [List.length_map]; omega
      have hsz := hb.out.size
      have ho := hown.out
      have hq : (bits BinOp.and IntKind.i64 (x : Int) (s : Int) != (s : Int)) = !sub s x := by rw [← and_bitY hs hx64]; rfl
      clear hx hx' hbb
      cases hsub : (!sub s x)
      · have Hn : Hid ((fs.take (k + 1)).filter (fun u => !sub s u) = (fs.take k).filter (fun u => !sub s u)) := by show _ = _; rw [Ht.out, List.filter_append]; simp only [List.filter_cons, List.filter_nil]; rw [hsub]; simp
        rw [hsub] at hq
        clear hsub
        go_wp2
        go_roundw
        case rel => exact ⟨k + 1, by omega, by go_num, by rw [Hn.out]; exact hown, hb, hfs, hdis⟩
        case measure => simp [intOf]; omega
      · have Hy : Hid ((fs.take (k + 1)).filter (fun u => !sub s u) = (fs.take k).filter (fun u => !sub s u) ++ [x]) := by show _ = _; rw [Ht.out, List.filter_append]; simp only [List.filter_cons, List.filter_nil]; rw [hsub]; simp
        rw [hsub] at hq
        clear hsub
        go_wp2_with (first | (at_builtin; refine wpList_appAt ho (x : Int) Try.underlying36 infoI rfl _ _ rfl rfl rfl hlen hsz ?_; intro v' w5 hown5 hb5 hg5 hat5))
        have Hown5 : Hid (OwnV 3 w5 w2.heap.size v' (ints (zs ((fs.take (k + 1)).filter (fun u => !sub s u))))) := by show OwnV _ _ _ _ _; rw [Hy.out, zs_snoc]; exact hown5
        have Hb5 : Hid (Below w2.heap.size w2 w5) := hb.out.trans hb5
        have Hfs5 := hide (own_grown hfs.out hg5 (fun j hj e => hdis.out j e hj))
        have Hdis5 : Hid (∀ j, Value.ownBlock v' = some j → Value.ownBlock (.slice (some ⟨b, o, none⟩) fs.length c4) ≠ some j) := by
          intro j hj e
          rcases hat5 with h | h
          · exact hdis.out j (h.symm.trans hj) e
          · rw [h] at hj
            have h1 := (own_block hfs.out j e).2
            have h2 := Option.some.inj hj
            omega
        go_wp2
        go_roundw
        case rel => exact ⟨k + 1, by omega, by go_num, Hown5, Hb5, Hfs5, Hdis5⟩
        case measure => simp [intOf]; omega
    · have hk2 : fs.length ≤ k := by omega
      have Ht := hide (take_all fs k hk2)
      have hlen : (zs (fs.filter (fun u => !sub s u))).length ≤ 1073741824 := by
        have h1 := List.length_filter_le (fun u => !sub s u) fs
        rw [List.length_map]; omega
      have hown2 := hown.out
      rw [Ht.out] at hown2
      have Hown := hide hown2
      have Hall : Hid (allSets (zs (fs.filter (fun u => !sub s u))) = true) := zs_all (fun u hu => Hmem.out u (List.mem_filter.1 hu).1)
      obtain ⟨e1, e2⟩ := At1.out.to hb.out
      clear hown hown2 hfs hdis
      go_wp2_with fail
      refine (l3MakeS n _ (zs (fs.filter (fun u => !sub s u))) wr (own_reads Hown.out) hlen Hall.out).mono ?_
      rintro e w6 ⟨v', rfl, o6, b6⟩
      obtain ⟨A', c', rfl⟩ := own_shape o6
      obtain ⟨h90, f90, f91⟩ := (Rs2.out.to hb.out).to b6
      obtain ⟨q0, q1, h90, h91⟩ := h90
      have h9r := ((Rs2.out.to hb.out).to b6).lt
      have Hfar := hide (fun k hk => Nat.lt_of_lt_of_le (Rs2.out.to hb.out).lt (own_block o6 k hk).1)
      have Ho6 := hide (own_mono o6 (nxt B2.out hb.out).size)
      have Hb6 := hide (nxt (nxt B2.out hb.out) b6)
      have Hl0 := hide hl0
      clear o6 b6 hl0
      go_wp2
      rw [Hl0.out]
      refine bodyPost_ret (v := .agg #[.int .i64 n, .slice A' (zs (maxOf (inList (zs (fs.filter (fun u => !sub s u)))))).length c']) (by simp [results, Try.results133, go_sem, h90, h91]) rfl ?_
      exact ⟨_, rfl, own_setNe (own_setNe Ho6.out (fun k hk => by have := Hfar.out k hk; omega) _ _) (fun k hk => by have := Hfar.out k hk; omega) _ _, below_store Hb6.out Hle.out _ _⟩

theorem deletionOfI (n : Int) (v : Value) (xs : List Int) (t : Int) (w : World) (h : IntsAt w w.heap.size v xs) (hl : xs.length ≤ 1073741824) :
    Calls Try.prog 64 #[.agg #[.int .i64 n, v], .int .i64 t] w fun e w' => RetCB 3 w (cbN (setOk n xs t) n) (cbXs (setOk n xs t) (maxOf (delP (faceP xs) t.toNat))) (setOk n xs t) e w' := by
  obtain ⟨A, c, rfl⟩ := reads_shape h
  obtain ⟨w1, hW1, at1, b1, z1⟩ := boxC w (.int .i64 n) (.slice A xs.length c) 42
  obtain ⟨w2, hW2, at2, rs2, b2, z2⟩ := boxRes w1 42
  have b02 := nxt b1 b2
  have R0 := hide h
  have R2 := hide (now_ h b02)
  have at1 := at1.to b2
  have At1 := hide at1
  have Rs2 := hide rs2
  have B2 := hide b02
  have hne : w.heap.size ≠ w1.heap.size := by omega
  have Hle : Hid (w.heap.size ≤ w1.heap.size) := by show _ ≤ _; omega
  obtain ⟨e1_0, e1_1⟩ := at1
  obtain ⟨e2_0, e2_1⟩ := at2
  have At2 : Hid (AtC w2 w1.heap.size (.int .i64 0) (.slice none 0 0)) := ⟨e2_0, e2_1⟩
  clear h b1 b2 b02 z1 z2 rs2
  cases hcx : isCx n xs
  · have Hcx := hide hcx
    clear hcx
    have Hok : Hid (setOk n xs t = false) := by show _ = _; unfold setOk; rw [Hcx.out]; rfl
    go_enter Try.func64, Try.ntmps64
    go_wp2_with fail
    clear hW1 hW2
    refine (isComplexI n _ xs w2 R2.out hl).mono ?_
    rw [Hcx.out]
    rintro e w3 ⟨rfl, b3⟩
    obtain ⟨e3_0, e3_1⟩ := At2.out.to b3
    obtain ⟨_, f0, f1⟩ := Rs2.out.to b3
    have hr : w1.heap.size < w3.heap.size := (Rs2.out.to b3).lt
    have B3 := hide (nxt B2.out b3)
    clear b3 e1_0 e1_1 e2_0 e2_1
    go_wp2
    refine bodyPost_ret (v := .tuple #[.agg #[.int .i64 0, .slice none 0 0], .bool false]) (by simp [results, Try.results64, go_sem, e3_0, e3_1]) rfl ?_
    exact retCB_no Hok.out (below_store B3.out Hle.out _ _)
  · have Hcx := hide hcx
    clear hcx
    cases hset : isSetB n t
    · have Hset := hide hset
      clear hset
      have Hok : Hid (setOk n xs t = false) := by show _ = _; unfold setOk; rw [Hcx.out, Hset.out]; rfl
      go_enter Try.func64, Try.ntmps64
      go_wp2_with fail
      clear hW1 hW2
      refine (isComplexI n _ xs w2 R2.out hl).mono ?_
      rw [Hcx.out]
      rintro e w3 ⟨rfl, b3⟩
      obtain ⟨e3_0, e3_1⟩ := At2.out.to b3
      obtain ⟨e13_0, e13_1⟩ := At1.out.to b3
      obtain ⟨_, f0, f1⟩ := Rs2.out.to b3
      have hr : w1.heap.size < w3.heap.size := (Rs2.out.to b3).lt
      have B3 := hide (nxt B2.out b3)
      clear b3 e1_0 e1_1 e2_0 e2_1
      go_wp2_with (go_at_call 86; refine (isSetI _ _ _).mono ?_; rw [Hset.out]; rintro e wx ⟨rfl, rfl⟩)
      refine bodyPost_ret (v := .tuple #[.agg #[.int .i64 0, .slice none 0 0], .bool false]) (by simp [results, Try.results64, go_sem, e3_0, e3_1]) rfl ?_
      exact retCB_no Hok.out (below_store B3.out Hle.out _ _)
    · have Hset := hide hset
      have ht := isSetB_64 hset
      obtain ⟨s, rfl⟩ := Int.eq_ofNat_of_zero_le ht.1
      have hs : s < 64 := by omega
      have Hok : Hid (setOk n xs (s : Int) = true) := by show _ = _; unfold setOk; rw [Hcx.out, Hset.out]; rfl
      clear hset ht
      go_enter Try.func64, Try.ntmps64
      go_wp2_with fail
      clear hW1 hW2
      refine (isComplexI n _ xs w2 R2.out hl).mono ?_
      rw [Hcx.out]
      rintro e w3 ⟨rfl, b3⟩
      obtain ⟨e13_0, e13_1⟩ := At1.out.to b3
      have B3 := hide (nxt B2.out b3)
      have Sx : Hid (Below w.heap.size w w3.drew ∧ Res w1.heap.size w3.drew) := ⟨(nxt B2.out b3).drew, by have h := Rs2.out.to b3; exact h⟩
      have hK : Hid (∀ W W' : World, (AtC W w.heap.size (.int .i64 n) (.slice A xs.length c) ∧ Hid (Below w.heap.size w W ∧ Res w1.heap.size W)) → Below W.heap.size W W' → (AtC W' w.heap.size (.int .i64 n) (.slice A xs.length c) ∧ Hid (Below w.heap.size w W' ∧ Res w1.heap.size W'))) := fun W W' h k => ⟨h.1.to k, nxt h.2.1 k, h.2.2.to k⟩
      have hKs : Hid (∀ (W : World) (x y : Value), (AtC W w.heap.size (.int .i64 n) (.slice A xs.length c) ∧ Hid (Below w.heap.size w W ∧ Res w1.heap.size W)) → (AtC ((W.setCell ⟨w1.heap.size, 0, none⟩ x).setCell ⟨w1.heap.size, 1, none⟩ y) w.heap.size (.int .i64 n) (.slice A xs.length c) ∧ Hid (Below w.heap.size w ((W.setCell ⟨w1.heap.size, 0, none⟩ x).setCell ⟨w1.heap.size, 1, none⟩ y) ∧ Res w1.heap.size ((W.setCell ⟨w1.heap.size, 0, none⟩ x).setCell ⟨w1.heap.size, 1, none⟩ y)))) := fun W x y h => ⟨h.1.store hne x y, below_store h.2.1 Hle.out x y, h.2.2.store x y⟩
      clear b3 e1_0 e1_1 e2_0 e2_1
      go_wp2_with (go_at_call 86; refine (isSetI _ _ _).mono ?_; rw [Hset.out]; rintro e wx ⟨rfl, rfl⟩)
      go_region_held3 (fun W => ((W.cell? ⟨w.heap.size, 0, none⟩ = some (.int .i64 n) ∧ W.cell? ⟨w.heap.size, 1, none⟩ = some (.slice A xs.length c)) ∧ Hid (Below w.heap.size w W ∧ Res w1.heap.size W))) (first | exact ⟨⟨e13_0, e13_1⟩, Sx⟩ | exact hK.out _ _ (by assumption) (by assumption) | exact hKs.out _ _ _ (by assumption) | assumption | go_keep) (first | (go_at_call 114; refine (facesInI n _ xs _ (by rename_i hS _ _; exact now_ R0.out hS.2.1) hl Hcx.out).mono ?_; rintro e wq ⟨rfl, bq⟩) | (go_at_call 132; refine (deletionInI (faceP xs) s hs _).mono ?_; rintro e wq ⟨rfl, bq⟩) | (go_at_call 124; rename_i hS _ _; have hRs := hS.2.2; have hBs := hS.2.1; refine (complexOfI n (delP (faceP xs) s) _).mono ?_; rintro e w9 ⟨v9, rfl, o9, b9⟩; obtain ⟨A9, c9, rfl⟩ := own_shape o9; obtain ⟨⟨q0, q1, h90, h91⟩, f90, f91⟩ := hRs.to b9; have h9r := (hRs.to b9).lt))
      have Hfar := hide (fun k hk => Nat.lt_of_lt_of_le hRs.lt (own_block o9 k hk).1)
      have Ho := hide (own_mono o9 hBs.size)
      have Hb := hide (nxt hBs b9)
      clear o9 b9 hRs hBs
      go_wp2
      refine bodyPost_ret (v := .tuple #[.agg #[.int .i64 n, .slice A9 (zs (maxOf (delP (faceP xs) s))).length c9], .bool true]) (by simp [results, Try.results64, go_sem, h90, h91]) rfl ?_
      rw [Int.toNat_natCast]
      refine retCB_yes Hok.out (own_setNe (own_setNe Ho.out (fun k hk => by have := Hfar.out k hk; omega) _ _) (fun k hk => by have := Hfar.out k hk; omega) _ _) (below_store Hb.out Hle.out _ _)

theorem del_max {xs : List Int} {s : Nat} (_hx : ∀ x ∈ xs, 0 ≤ x ∧ x < 64) (_hs : s < 64) : maxOf (inList (zs ((listOf (faceP xs)).filter (fun u => !sub s u)))) = maxOf (delP (faceP xs) s) := by
  apply maxOf_congr
  intro u hu
  rw [Bool.eq_iff_iff, mem_zs, List.mem_filter, mem_listOf]
  unfold delP
  rw [Bool.and_eq_true]
  exact ⟨fun h => ⟨h.1.2, h.2⟩, fun h => ⟨⟨hu, h.1⟩, h.2⟩⟩

theorem deletionOfS (n : Int) (v : Value) (xs : List Int) (t : Int) (w : World) (h : IntsAt w w.heap.size v xs) (hl : xs.length ≤ 1048576) :
    Calls Try.prog 65 #[.agg #[.int .i64 n, v], .int .i64 t] w fun e w' => RetCB 3 w (cbN (setOk n xs t) n) (cbXs (setOk n xs t) (maxOf (delP (faceP xs) t.toNat))) (setOk n xs t) e w' := by
  obtain ⟨A, c, rfl⟩ := reads_shape h
  obtain ⟨w1, hW1, at1, b1, z1⟩ := boxC w (.int .i64 n) (.slice A xs.length c) 42
  obtain ⟨w2, hW2, at2, rs2, b2, z2⟩ := boxRes w1 42
  have b02 := nxt b1 b2
  have R2 := hide (now_ h b02)
  have at1 := at1.to b2
  have At1 := hide at1
  have Rs2 := hide rs2
  have B2 := hide b02
  have Hle : Hid (w.heap.size ≤ w1.heap.size) := by show _ ≤ _; omega
  obtain ⟨e1_0, e1_1⟩ := at1
  obtain ⟨e2_0, e2_1⟩ := at2
  have At2 : Hid (AtC w2 w1.heap.size (.int .i64 0) (.slice none 0 0)) := ⟨e2_0, e2_1⟩
  clear h b1 b2 b02 z1 z2 rs2
  cases hok : setOk n xs t
  · have Hok := hide hok
    clear hok
    go_enter Try.func65, Try.ntmps65
    go_wp2_with fail
    clear hW1 hW2
    refine (l5SetS n _ xs t w2 R2.out (by omega)).mono ?_
    rw [Hok.out]
    rintro e w3 ⟨rfl, b3⟩
    obtain ⟨e3_0, e3_1⟩ := At2.out.to b3
    obtain ⟨_, f0, f1⟩ := Rs2.out.to b3
    have hr : w1.heap.size < w3.heap.size := (Rs2.out.to b3).lt
    have B3 := hide (nxt B2.out b3)
    clear b3 e1_0 e1_1 e2_0 e2_1
    go_wp2
    refine bodyPost_ret (v := .tuple #[.agg #[.int .i64 0, .slice none 0 0], .bool false]) (by simp [results, Try.results65, go_sem, e3_0, e3_1]) rfl ?_
    exact retCB_no rfl (below_store B3.out Hle.out _ _)
  · have Hok := hide hok
    have hcx : isCx n xs = true := by unfold setOk at hok; rw [Bool.and_eq_true] at hok; exact hok.1
    have hset : isSetB n t = true := by unfold setOk at hok; rw [Bool.and_eq_true] at hok; exact hok.2
    have ht := isSetB_64 hset
    obtain ⟨s, rfl⟩ := Int.eq_ofNat_of_zero_le ht.1
    have hs : s < 64 := by omega
    have Hcx := hide hcx
    have Hmx := hide (del_max (isCx_sets hcx) hs)
    clear hok hcx hset ht
    go_enter Try.func65, Try.ntmps65
    go_wp2_with fail
    clear hW1 hW2
    refine (l5SetS n _ xs _ w2 R2.out (by omega)).mono ?_
    rw [Hok.out]
    rintro e w3 ⟨rfl, b3⟩
    have R3 := hide (now_ R2.out b3)
    obtain ⟨e3_0, e3_1⟩ := At1.out.to b3
    have Rs3 := hide (Rs2.out.to b3)
    have B3 := hide (nxt B2.out b3)
    clear b3 e1_0 e1_1 e2_0 e2_1
    go_wp2_with fail
    refine (l5WithoutS n _ xs s w3 R3.out hl Hcx.out hs).mono ?_
    rw [Hmx.out]
    rintro e w4 ⟨v4, rfl, o4, b4⟩
    obtain ⟨A4, c4, rfl⟩ := own_shape o4
    obtain ⟨⟨q0, q1, h90, h91⟩, f90, f91⟩ := Rs3.out.to b4
    have h9r := (Rs3.out.to b4).lt
    have Hfar := hide (fun k hk => Nat.lt_of_lt_of_le Rs3.out.lt (own_block o4 k hk).1)
    have Ho4 := hide (own_mono o4 B3.out.size)
    have Hb4 := hide (nxt B3.out b4)
    clear o4 b4 e3_0 e3_1
    go_wp2
    rw [Int.toNat_natCast]
    refine bodyPost_ret (v := .tuple #[.agg #[.int .i64 n, .slice A4 (zs (maxOf (delP (faceP xs) s))).length c4], .bool true]) (by simp [results, Try.results65, go_sem, h90, h91]) rfl ?_
    exact retCB_yes rfl (own_setNe (own_setNe Ho4.out (fun k hk => by have := Hfar.out k hk; omega) _ _) (fun k hk => by have := Hfar.out k hk; omega) _ _) (below_store Hb4.out Hle.out _ _)
end

/- Walks: StarOf in the program. -/
section
open Go.RowKit

theorem boxI (w : World) (x : Value) (T : TypeId) : ∃ W, w.alloc (.cells #[x] T) = W ∧ W.cell? ⟨w.heap.size, 0, none⟩ = some x ∧ Below w.heap.size w W ∧ W.heap.size = w.heap.size + 1 :=
  ⟨_, rfl, World.cell?_alloc_at _ _ _ _ rfl, below_alloc _ _, by simp⟩
theorem cell_to {W W' : World} {b : Nat} {x : Value} (h : W.cell? ⟨b, 0, none⟩ = some x) (k : Below W.heap.size W W') : W'.cell? ⟨b, 0, none⟩ = some x := (k.cell (p := ⟨b, 0, none⟩) (World.block_lt_of_cell? _ _ h)).trans h
def starP (P : Nat → Bool) (s t : Nat) : Bool := P (t ||| s)
theorem or64b {t s : Nat} (ht : t < 64) (hs : s < 64) : t ||| s < 64 := Nat.or_lt_two_pow (n := 6) (by omega) (by omega)
theorem star1I (P : Nat → Bool) (s t : Nat) (hs : s < 64) (ht : t < 64) (b1 b2 : Nat) (w : World) (h1 : w.cell? ⟨b1, 0, none⟩ = some (.int .u64 (fam P : Int))) (h2 : w.cell? ⟨b2, 0, none⟩ = some (.int .i64 (s : Int))) :
    Calls Try.prog 129 #[.int .i64 (t : Int), .pointer (some ⟨b1, 0, none⟩), .pointer (some ⟨b2, 0, none⟩)] w fun e w' => e = .returned (.bool (starP P s t)) ∧ w = w' := by
  have ho := i64_or t s (by omega) (by omega)
  have hF := fam_lt P
  have hts := or64b ht hs
  have Hb : Hid ((fam P).testBit (t ||| s) = starP P s t) := by show _ = _; rw [fam_bit, decide_eq_true hts]; rfl
  go_enter Try.func129, Try.ntmps129
  go_wp2_with (go_at_call 130; refine (hasSetI _ _ hF hts _).mono ?_; rintro e wx ⟨rfl, rfl⟩)
  go_ret
  exact ⟨ret_bool Hb.out, rfl⟩
theorem enter_star1 (args : Array Value) (W : World) : (callFunc 129 args).run Try.prog W = .ok (.enter 129 args) W := call_enter Try.func129 (by kernel_rfl) rfl args W

theorem starOfI (n : Int) (v : Value) (xs : List Int) (t : Int) (w : World) (h : IntsAt w w.heap.size v xs) (hl : xs.length ≤ 1073741824) :
    Calls Try.prog 62 #[.agg #[.int .i64 n, v], .int .i64 t] w fun e w' => RetCB 3 w (cbN (setOk n xs t) n) (cbXs (setOk n xs t) (maxOf (pickTo (starP (faceP xs) t.toNat) (2 ^ n.toNat)))) (setOk n xs t) e w' := by
  obtain ⟨A, c, rfl⟩ := reads_shape h
  obtain ⟨w1, hW1, at1, b1, z1⟩ := boxC w (.int .i64 n) (.slice A xs.length c) 42
  obtain ⟨w1s, hW1s, ats, b1s, z1s⟩ := boxI w1 (.int .i64 t) 3
  obtain ⟨w2, hW2, at2, rs2, b2, z2⟩ := boxRes w1s 42
  have b02 := nxt (nxt b1 b1s) b2
  have R2 := hide (now_ h b02)
  have at1 := (at1.to b1s).to b2
  have At1 := hide at1
  have ats := cell_to ats b2
  have Ats := hide ats
  have Rs2 := hide rs2
  have B2 := hide b02
  have Hle : Hid (w.heap.size ≤ w1s.heap.size) := by show _ ≤ _; omega
  obtain ⟨e1_0, e1_1⟩ := at1
  obtain ⟨e2_0, e2_1⟩ := at2
  have At2 : Hid (AtC w2 w1s.heap.size (.int .i64 0) (.slice none 0 0)) := ⟨e2_0, e2_1⟩
  clear h b1 b1s b2 b02 z1 z1s z2 rs2
  cases hcx : isCx n xs
  · have Hcx := hide hcx
    clear hcx
    have Hok : Hid (setOk n xs t = false) := by show _ = _; unfold setOk; rw [Hcx.out]; rfl
    go_enter Try.func62, Try.ntmps62
    go_wp2_with fail
    clear hW1 hW1s hW2
    refine (isComplexI n _ xs w2 R2.out hl).mono ?_
    rw [Hcx.out]
    rintro e w3 ⟨rfl, b3⟩
    obtain ⟨e3_0, e3_1⟩ := At2.out.to b3
    obtain ⟨_, f0, f1⟩ := Rs2.out.to b3
    have hr : w1s.heap.size < w3.heap.size := (Rs2.out.to b3).lt
    have B3 := hide (nxt B2.out b3)
    clear b3 e1_0 e1_1 e2_0 e2_1 ats
    go_wp2
    refine bodyPost_ret (v := .tuple #[.agg #[.int .i64 0, .slice none 0 0], .bool false]) (by simp [results, Try.results62, go_sem, e3_0, e3_1]) rfl ?_
    exact retCB_no Hok.out (below_store B3.out Hle.out _ _)
  · have Hcx := hide hcx
    clear hcx
    cases hset : isSetB n t
    · have Hset := hide hset
      clear hset
      have Hok : Hid (setOk n xs t = false) := by show _ = _; unfold setOk; rw [Hcx.out, Hset.out]; rfl
      go_enter Try.func62, Try.ntmps62
      go_wp2_with fail
      clear hW1 hW1s hW2
      refine (isComplexI n _ xs w2 R2.out hl).mono ?_
      rw [Hcx.out]
      rintro e w3 ⟨rfl, b3⟩
      obtain ⟨e3_0, e3_1⟩ := At2.out.to b3
      obtain ⟨e13_0, e13_1⟩ := At1.out.to b3
      have es := cell_to Ats.out b3
      obtain ⟨_, f0, f1⟩ := Rs2.out.to b3
      have hr : w1s.heap.size < w3.heap.size := (Rs2.out.to b3).lt
      have B3 := hide (nxt B2.out b3)
      clear b3 e1_0 e1_1 e2_0 e2_1 ats
      go_wp2_with (go_at_call 86; refine (isSetI _ _ _).mono ?_; rw [Hset.out]; rintro e wx ⟨rfl, rfl⟩)
      refine bodyPost_ret (v := .tuple #[.agg #[.int .i64 0, .slice none 0 0], .bool false]) (by simp [results, Try.results62, go_sem, e3_0, e3_1]) rfl ?_
      exact retCB_no Hok.out (below_store B3.out Hle.out _ _)
    · have Hset := hide hset
      have ht := isSetB_64 hset
      obtain ⟨s, rfl⟩ := Int.eq_ofNat_of_zero_le ht.1
      have hs : s < 64 := by omega
      have hn6 := (isSetB_yes hset).2.1
      obtain ⟨m, rfl⟩ := Int.eq_ofNat_of_zero_le (isSetB_yes hset).1
      have hm6 : m ≤ 6 := by omega
      have Hok : Hid (setOk (m : Int) xs (s : Int) = true) := by show _ = _; unfold setOk; rw [Hcx.out, Hset.out]; rfl
      clear hset ht hn6
      go_enter Try.func62, Try.ntmps62
      go_wp2_with fail
      clear hW1 hW1s hW2
      refine (isComplexI m _ xs w2 R2.out hl).mono ?_
      rw [Hcx.out]
      rintro e w3 ⟨rfl, b3⟩
      obtain ⟨e3_0, e3_1⟩ := At1.out.to b3
      have es3 := cell_to Ats.out b3
      have At3 := hide (At1.out.to b3)
      have Es3 := hide es3
      have Rs3 := hide (Rs2.out.to b3)
      have B3 := hide (nxt B2.out b3)
      have R3 := hide (now_ R2.out b3)
      clear b3 e1_0 e1_1 e2_0 e2_1 ats
      go_wp2_with (go_at_call 86; refine (isSetI _ _ _).mono ?_; rw [Hset.out]; rintro e wx ⟨rfl, rfl⟩)
      refine (facesInI m _ xs _ R3.out hl Hcx.out).mono ?_
      rintro e w4 ⟨rfl, b4⟩
      obtain ⟨w5, hW5, ef5, b5, z5⟩ := boxI w4 (.int .u64 (fam (faceP xs) : Int)) 78
      have b35 := nxt b4 b5
      obtain ⟨e5_0, e5_1⟩ := At3.out.to b35
      have es5 := cell_to Es3.out b35
      have Rs5 := hide (Rs3.out.to b35)
      have B5 := hide (nxt B3.out b35)
      have Hp := hide (pickSetsI 129 #[.pointer (some ⟨w4.heap.size, 0, none⟩), .pointer (some ⟨w1.heap.size, 0, none⟩)] m hm6 (starP (faceP xs) s) w5 enter_star1 (fun t ht => star1I (faceP xs) s t hs ht _ _ w5 ef5 es5))
      clear b4 b5 b35 z5 e3_0 e3_1 es3
      go_wp2_with fail
      clear hW5
      refine (Hp.out).mono ?_
      rintro e w6 ⟨rfl, rfl⟩
      clear ef5 es5
      go_wp2_with fail
      refine (complexOfI m (pickTo (starP (faceP xs) s) (2 ^ m)) w5).mono ?_
      rintro e w7 ⟨v7, rfl, o7, b7⟩
      obtain ⟨A7, c7, rfl⟩ := own_shape o7
      obtain ⟨⟨q0, q1, h90, h91⟩, f90, f91⟩ := Rs5.out.to b7
      have h9r := (Rs5.out.to b7).lt
      have Hfar := hide (fun k hk => Nat.lt_of_lt_of_le Rs5.out.lt (own_block o7 k hk).1)
      have Ho := hide (own_mono o7 B5.out.size)
      have Hb := hide (nxt B5.out b7)
      clear o7 b7 e5_0 e5_1
      go_wp2
      refine bodyPost_ret (v := .tuple #[.agg #[.int .i64 m, .slice A7 (zs (maxOf (pickTo (starP (faceP xs) s) (2 ^ m)))).length c7], .bool true]) (by simp [results, Try.results62, go_sem, h90, h91]) rfl ?_
      rw [Int.toNat_natCast, Int.toNat_natCast]
      exact retCB_yes Hok.out (own_setNe (own_setNe Ho.out (fun k hk => by have := Hfar.out k hk; omega) _ _) (fun k hk => by have := Hfar.out k hk; omega) _ _) (below_store Hb.out Hle.out _ _)
end

/- Walks: StarOf in the reference; both makings are one. -/
section
open Go.RowKit

def stars (s : Nat) (xs : List Int) : List Nat := (xs.filter (fun x => sub s x.toNat)).map Int.toNat
theorem stars_len (s : Nat) (xs : List Int) : (stars s xs).length ≤ xs.length := by unfold stars; rw [List.length_map]; exact List.length_filter_le _ _
theorem stars_yes {s x : Nat} {xs : List Int} (h : sub s x = true) : stars s (xs ++ [(x : Int)]) = stars s xs ++ [x] := by simp [stars, List.filter_append, h]
theorem stars_no {s x : Nat} {xs : List Int} (h : sub s x = false) : stars s (xs ++ [(x : Int)]) = stars s xs := by simp [stars, List.filter_append, h]
theorem stars_all {xs : List Int} {s : Nat} (h : ∀ x ∈ xs, 0 ≤ x ∧ x < 64) : allSets (zs (stars s xs)) = true := by
  refine zs_all fun m hm => ?_
  obtain ⟨x, hx, rfl⟩ := List.mem_map.1 hm
  have := h x (List.mem_filter.1 hx).1
  omega
theorem or_sub {s x : Nat} (h : sub s x = true) : x ||| s = x := by
  rw [sub_iff] at h
  apply Nat.eq_of_testBit_eq
  intro i
  rw [Nat.testBit_or]
  have := congrArg (fun z => z.testBit i) h
  simp only [Nat.testBit_and] at this
  cases hx : x.testBit i
  · rw [hx] at this
    cases hs : s.testBit i
    · rfl
    · rw [hs] at this; cases this
  · rfl
theorem sub_or_l (a b : Nat) : sub a (a ||| b) = true := by
  rw [sub_iff]
  apply Nat.eq_of_testBit_eq
  intro i
  rw [Nat.testBit_and, Nat.testBit_or]
  cases a.testBit i <;> simp
theorem sub_or_r (a b : Nat) : sub b (a ||| b) = true := by rw [Nat.or_comm]; exact sub_or_l b a
theorem star_max {n : Nat} {xs : List Int} {s : Nat} (hcx : isCx (n : Int) xs = true) : maxOf (inList (zs (stars s xs))) = maxOf (pickTo (starP (faceP xs) s) (2 ^ n)) := by
  apply maxOf_under
  intro t _
  constructor
  · rintro ⟨u, hu, hin, htu⟩
    obtain ⟨x, hxm, rfl⟩ := List.mem_map.1 (mem_zs.1 hin)
    obtain ⟨hxm, hsx⟩ := List.mem_filter.1 hxm
    have hfit := isSetB_yes (isCx_fit hcx x hxm)
    refine ⟨_, hu, ?_, htu⟩
    unfold pickTo starP
    have hlt : x.toNat < 2 ^ n := by
      have h := hfit.2.2.2
      rw [Int.toNat_natCast] at h
      have h0 := hfit.2.2.1
      have : ((2 : Int) ^ n) = ((2 ^ n : Nat) : Int) := by simp
      omega
    rw [decide_eq_true hlt, or_sub hsx]
    exact List.any_eq_true.2 ⟨x, hxm, sub_self _⟩
  · rintro ⟨u, hu, hin, htu⟩
    unfold pickTo starP at hin
    rw [Bool.and_eq_true] at hin
    obtain ⟨x, hxm, hux⟩ := List.any_eq_true.1 hin.2
    have hx64 := isCx_sets hcx x hxm
    exact ⟨x.toNat, by omega, mem_zs.2 (List.mem_map.2 ⟨x, List.mem_filter.2 ⟨hxm, sub_trans2 (sub_or_r u s) hux⟩, rfl⟩), sub_trans2 htu (sub_trans2 (sub_or_l u s) hux)⟩

theorem starOfS (n : Int) (v : Value) (xs : List Int) (t : Int) (w : World) (h : IntsAt w w.heap.size v xs) (hl : xs.length ≤ 1048576) :
    Calls Try.prog 63 #[.agg #[.int .i64 n, v], .int .i64 t] w fun e w' => RetCB 3 w (cbN (setOk n xs t) n) (cbXs (setOk n xs t) (maxOf (pickTo (starP (faceP xs) t.toNat) (2 ^ n.toNat)))) (setOk n xs t) e w' := by
  obtain ⟨A, c, rfl⟩ := reads_shape h
  obtain ⟨w1, hW1, at1, b1, z1⟩ := boxC w (.int .i64 n) (.slice A xs.length c) 42
  obtain ⟨w2, hW2, at2, rs2, b2, z2⟩ := boxRes w1 42
  have b02 := nxt b1 b2
  have R2 := hide (now_ h b02)
  have at1 := at1.to b2
  have At1 := hide at1
  have Rs2 := hide rs2
  have B2 := hide b02
  have Hle : Hid (w.heap.size ≤ w1.heap.size) := by show _ ≤ _; omega
  obtain ⟨e1_0, e1_1⟩ := at1
  obtain ⟨e2_0, e2_1⟩ := at2
  have At2 : Hid (AtC w2 w1.heap.size (.int .i64 0) (.slice none 0 0)) := ⟨e2_0, e2_1⟩
  clear h b1 b2 b02 z1 z2 rs2
  cases hok : setOk n xs t
  · have Hok := hide hok
    clear hok
    go_enter Try.func63, Try.ntmps63
    go_wp2_with fail
    clear hW1 hW2
    refine (l5SetS n _ xs t w2 R2.out (by omega)).mono ?_
    rw [Hok.out]
    rintro e w3 ⟨rfl, b3⟩
    obtain ⟨e3_0, e3_1⟩ := At2.out.to b3
    obtain ⟨_, f0, f1⟩ := Rs2.out.to b3
    have hr : w1.heap.size < w3.heap.size := (Rs2.out.to b3).lt
    have B3 := hide (nxt B2.out b3)
    clear b3 e1_0 e1_1 e2_0 e2_1
    go_wp2
    refine bodyPost_ret (v := .tuple #[.agg #[.int .i64 0, .slice none 0 0], .bool false]) (by simp [results, Try.results63, go_sem, e3_0, e3_1]) rfl ?_
    exact retCB_no rfl (below_store B3.out Hle.out _ _)
  · have Hok := hide hok
    have hcx : isCx n xs = true := by unfold setOk at hok; rw [Bool.and_eq_true] at hok; exact hok.1
    have hset : isSetB n t = true := by unfold setOk at hok; rw [Bool.and_eq_true] at hok; exact hok.2
    have ht := isSetB_64 hset
    obtain ⟨s, rfl⟩ := Int.eq_ofNat_of_zero_le ht.1
    have hs : s < 64 := by omega
    obtain ⟨m, rfl⟩ := Int.eq_ofNat_of_zero_le (isSetB_yes hset).1
    have Hcx := hide hcx
    have Hmx := hide (star_max (s := s) hcx)
    clear hok hcx hset ht
    go_enter Try.func63, Try.ntmps63
    go_wp2_with fail
    clear hW1 hW2
    refine (l5SetS m _ xs _ w2 R2.out (by omega)).mono ?_
    rw [Hok.out]
    rintro e w3 ⟨rfl, b3⟩
    have He := hide (cxElems (now_ R2.out b3) Hcx.out)
    have At3 := hide (At1.out.to b3)
    have Rs3 := hide (Rs2.out.to b3)
    have B3 := hide (nxt B2.out b3)
    clear b3 e1_0 e1_1 e2_0 e2_1
    obtain ⟨w4, hW4, ho, hbw⟩ : ∃ W, w3.alloc (.cells #[] 3) = W ∧ OwnV 3 W w3.heap.size (.slice (some ⟨w3.heap.size, 0, none⟩) 0 0) (ints (zs (stars s (xs.take 0)))) ∧ Below w3.heap.size w3 W := ⟨_, rfl, own_empty _ _, below_alloc _ _⟩
    have Ho := hide ho
    have Hbw := hide hbw
    clear ho hbw
    go_wp2_with fail
    clear hW4
    go_loopw [6, 7] (fun v i wr => ∃ k : Nat, k ≤ xs.length ∧ i = .int .i64 k ∧ Hid (OwnV 3 wr w3.heap.size v (ints (zs (stars s (xs.take k))))) ∧ Hid (Below w3.heap.size w3 wr)) (fun _ i _ => xs.length - (intOf i).toNat)
    case atStart => exact ⟨0, by omega, rfl, Ho, Hbw⟩
    case round =>
      obtain ⟨k, hk, rfl, hown, hb⟩ := hrel
      obtain ⟨e1, e2⟩ := At3.out.to hb.out
      by_cases hlt : k < xs.length
      · obtain ⟨b, o, x, ⟨c', hv⟩, hx, hx64, hcell0⟩ := He.out k hlt
        cases hv
        have hcell := (hb.out.cell (World.block_lt_of_cell? _ _ hcell0)).trans hcell0
        have Ht := hide (take_snoc _ _ _ hx)
        have hlen : (zs (stars s (xs.take k))).length < 17179869184 := by
          have h1 := stars_len s (xs.take k)
          have h2 := List.length_take_le k xs
          rw [List.length_map]; omega
        have hsz := hb.out.size
        have ho := hown.out
        have hq := and_bitY hs hx64
        clear hx hcell0
        cases hsub : sub s x
        · have Hn := hide (stars_no (xs := xs.take k) hsub)
          rw [hsub] at hq
          clear hsub
          go_wp2
          go_roundw
          case rel => exact ⟨k + 1, by omega, by go_num, by rw [Ht.out, Hn.out]; exact hown, hb⟩
          case measure => simp [intOf]; omega
        · have Hy := hide (stars_yes (xs := xs.take k) hsub)
          rw [hsub] at hq
          clear hsub
          go_wp2_with (at_builtin; refine wpList_appI ho (x : Int) Try.underlying36 infoI rfl _ _ rfl rfl rfl hlen hsz ?_; intro v' w5 hown5 hb5 hg5)
          have Hown5 : Hid (OwnV 3 w5 w3.heap.size v' (ints (zs (stars s (xs.take (k + 1)))))) := by show OwnV _ _ _ _ _; rw [Ht.out, Hy.out, zs_snoc]; exact hown5
          have Hb5 : Hid (Below w3.heap.size w3 w5) := hb.out.trans hb5
          go_wp2
          go_roundw
          case rel => exact ⟨k + 1, by omega, by go_num, Hown5, Hb5⟩
          case measure => simp [intOf]; omega
      · have hk2 : xs.length ≤ k := by omega
        have Ht := hide (take_all xs k hk2)
        have hlen : (zs (stars s xs)).length ≤ 1073741824 := by
          have h1 := stars_len s xs
          rw [List.length_map]; omega
        have hown2 := hown.out
        rw [Ht.out] at hown2
        have Hown := hide hown2
        have Hall := hide (stars_all (s := s) (isCx_sets Hcx.out))
        clear hown hown2
        go_wp2_with fail
        refine (l3MakeS m _ (zs (stars s xs)) wr (own_reads Hown.out) hlen Hall.out).mono ?_
        rw [Hmx.out]
        rintro e w6 ⟨v6, rfl, o6, b6⟩
        obtain ⟨A6, c6, rfl⟩ := own_shape o6
        obtain ⟨⟨q0, q1, h90, h91⟩, f90, f91⟩ := (Rs3.out.to hb.out).to b6
        have h9r := ((Rs3.out.to hb.out).to b6).lt
        have Hfar := hide (fun k hk => Nat.lt_of_lt_of_le (Rs3.out.to hb.out).lt (own_block o6 k hk).1)
        have Ho6 := hide (own_mono o6 (nxt B3.out hb.out).size)
        have Hb6 := hide (nxt (nxt B3.out hb.out) b6)
        clear o6 b6
        go_wp2
        rw [Int.toNat_natCast, Int.toNat_natCast]
        refine bodyPost_ret (v := .tuple #[.agg #[.int .i64 m, .slice A6 (zs (maxOf (pickTo (starP (faceP xs) s) (2 ^ m)))).length c6], .bool true]) (by simp [results, Try.results63, go_sem, h90, h91]) rfl ?_
        exact retCB_yes rfl (own_setNe (own_setNe Ho6.out (fun k hk => by have := Hfar.out k hk; omega) _ _) (fun k hk => by have := Hfar.out k hk; omega) _ _) (below_store Hb6.out Hle.out _ _)
end
end Go.Proofs.Ytmkacjpjcfffmaa
