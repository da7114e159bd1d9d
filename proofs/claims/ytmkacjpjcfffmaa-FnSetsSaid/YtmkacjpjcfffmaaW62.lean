/- Walks: the draws of sets: l2Sets, l1Turned, DrawIsSet, DrawBeforeSet, DrawParseSet, DrawMaximalSets; sameInts. -/
import Derived.Test.YtmkacjpjcfffmaaW61
import Derived.Test.YtmkacjpjcfffmaaTxt
import Derived.Test.YtmkacjpjcfffmaaW2
namespace Go.Proofs.Ytmkacjpjcfffmaa
open Go.RowKit

theorem sameIntsS (v1 v2 : Value) (xs ys : List Int) (w : World) (h1 : IntsAt w w.heap.size v1 xs) (h2 : IntsAt w w.heap.size v2 ys) (hl1 : xs.length ≤ 1073741824) (_hl2 : ys.length ≤ 1073741824) :
    Calls Try.prog 38 #[v1, v2] w fun e w' => RetB w (decide (xs = ys)) e w' := by
  obtain ⟨A1, c1, rfl, hc1, he1⟩ := form_ h1
  obtain ⟨A2, c2, rfl, hc2, he2⟩ := form_ h2
  clear h1 h2
  by_cases hl : xs.length = ys.length
  · have hlen := hide hl
    have hbe : ((xs.length : Int) != (ys.length : Int)) = false := by rw [hl]; simp
    have h12 : xs.length ≤ ys.length := by omega
    have h21 : ys.length ≤ xs.length := by omega
    clear hl
    go_enter Try.func38, Try.ntmps38
    go_wp2
    go_loopw [5] (fun i wr => ∃ (k n : Nat), k ≤ xs.length ∧ i = .int .i64 k ∧ xs.take k = ys.take k ∧ wr = w.drewN n) (fun i _ => xs.length - (intOf i).toNat)
    case atStart => exact ⟨0, 0, by omega, rfl, by simp, rfl⟩
    case round =>
      obtain ⟨k, n, hk, rfl, ht, rfl⟩ := hrel
      have Ht := hide ht
      clear ht
      by_cases hlt : k < xs.length
      · have hlt2 : k < ys.length := by omega
        obtain ⟨b1, o1, x, rfl, hb1, hx, hcx⟩ := he1 k hlt
        obtain ⟨b2, o2, y, rfl, hb2, hy, hcy⟩ := he2 k hlt2
        have Hx := hide hx
        have Hy := hide hy
        clear hx hy he1 he2
        by_cases hxy : x = y
        · have hne : (x != y) = false := by simp [hxy]
          have Hxy := hide hxy
          clear hxy
          go_wp2
          go_quiet (fail)
          go_wp2
          go_roundw
          case rel => exact ⟨k + 1, _, by omega, by go_num, by rw [take_snoc _ _ _ Hx.out, take_snoc _ _ _ Hy.out, Ht.out, Hxy.out], rfl⟩
          case measure => simp [intOf]; omega
        · have hne : (x != y) = true := by simp [hxy]
          have Hxy := hide hxy
          clear hxy
          go_wp2
          go_quiet (fail)
          go_wp2
          go_ret
          refine ⟨ret_bool ?_, below_drewN (below_drewN (Below.refl _ _) _) _⟩
          symm
          apply decide_eq_false
          intro h
          have h1 := Hx.out
          have h2 := Hy.out
          rw [h, h2] at h1
          exact Hxy.out (Option.some.inj h1).symm
      · clear he1 he2
        go_wp2
        go_ret
        refine ⟨ret_bool ?_, below_drewN (Below.refl _ _) _⟩
        symm
        apply decide_eq_true
        have := Ht.out
        rwa [take_all _ _ (by omega), take_all _ _ (by omega)] at this
  · have hlen := hide hl
    have hbe : ((xs.length : Int) != (ys.length : Int)) = true := by simp; omega
    clear hl he1 he2
    go_enter Try.func38, Try.ntmps38
    go_wp2
    go_ret
    refine ⟨ret_bool ?_, Below.refl _ _⟩
    symm
    apply decide_eq_false
    intro h
    exact hlen.out (by rw [h])
theorem sameInts_same (v1 v2 : Value) (xs : List Int) (w : World) (h1 : IntsAt w w.heap.size v1 xs) (h2 : IntsAt w w.heap.size v2 xs) (hl : xs.length ≤ 1073741824) :
    Calls Try.prog 38 #[v1, v2] w fun e w' => RetB w true e w' := by
  have h := sameIntsS v1 v2 xs xs w h1 h2 hl hl
  rwa [show decide (xs = xs) = true by simp] at h

/-- Two small ints are returned. -/
def Ret2 (w : World) (e : Ending) (w' : World) : Prop := ∃ a b : Int, -100 ≤ a ∧ a ≤ 100 ∧ -100 ≤ b ∧ b ≤ 100 ∧ e = .returned (.tuple #[.int .i64 a, .int .i64 b]) ∧ Below w.heap.size w w'
theorem drawIsSetS (v : Value) (L : List UInt8) (w : World) (h : BytesAt w w.heap.size v L) (hL : L.length ≤ 1073741824) :
    Calls Try.prog 78 #[v] w fun e w' => Ret2 w e w' := by
  have H := hide h
  clear h
  go_enter Try.func78, Try.ntmps78
  go_wp2_with fail
  refine (l1NewS v L w H.out hL).mono ?_
  rintro e w1 ⟨p, rfl, hp, c1, b1⟩
  have B1 := hide b1
  have C1 := hide c1
  clear b1 c1
  go_wp2_with fail
  refine (l1BelowS p v L _ w1 C1.out hL (by omega)).mono ?_
  rintro e w2 ⟨r, hr, _, rfl, c2, g2⟩
  have hr' := hr (by omega)
  have B2 := hide (cur_below B1.out B1.out.size g2 hp)
  have C2 := hide c2
  clear c2 g2 hr
  go_wp2_with fail
  refine (l1BelowS p v L _ w2 C2.out hL (by omega)).mono ?_
  rintro e w3 ⟨s, hs, _, rfl, c3, g3⟩
  have hs' := hs (by omega)
  have B3 := hide (cur_below B2.out B2.out.size g3 hp)
  clear c3 g3 hs
  go_wp2
  go_ret2
  exact ⟨_, _, by omega, by omega, by omega, by omega, rfl, B3.out⟩
theorem drawBeforeSetS (v : Value) (L : List UInt8) (w : World) (h : BytesAt w w.heap.size v L) (hL : L.length ≤ 1073741824) :
    Calls Try.prog 85 #[v] w fun e w' => Ret2 w e w' := by
  have H := hide h
  clear h
  go_enter Try.func85, Try.ntmps85
  go_wp2_with fail
  refine (l1NewS v L w H.out hL).mono ?_
  rintro e w1 ⟨p, rfl, hp, c1, b1⟩
  have B1 := hide b1
  have C1 := hide c1
  clear b1 c1
  go_wp2_with fail
  refine (l1BelowS p v L _ w1 C1.out hL (by omega)).mono ?_
  rintro e w2 ⟨r, hr, _, rfl, c2, g2⟩
  have hr' := hr (by omega)
  have B2 := hide (cur_below B1.out B1.out.size g2 hp)
  have C2 := hide c2
  clear c2 g2 hr
  go_wp2_with fail
  refine (l1BelowS p v L _ w2 C2.out hL (by omega)).mono ?_
  rintro e w3 ⟨s, hs, _, rfl, c3, g3⟩
  have hs' := hs (by omega)
  have B3 := hide (cur_below B2.out B2.out.size g3 hp)
  clear c3 g3 hs
  go_wp2
  go_ret2
  exact ⟨_, _, by omega, by omega, by omega, by omega, rfl, B3.out⟩

/-- Few small ints. -/
def Small (xs : List Int) : Prop := xs.length ≤ 6 ∧ ∀ x ∈ xs, -1 ≤ x ∧ x ≤ 64
theorem l2SetsS (p : Nat) (v : Value) (L : List UInt8) (W : World) (h : CurAt W p v L) (hL : L.length ≤ 1073741824) :
    Calls Try.prog 142 #[.pointer (some ⟨p, 0, none⟩)] W fun e W' => ∃ (u : Value) (xs : List Int), Small xs ∧ e = .returned u ∧ OwnV 3 W' W.heap.size u (ints xs) ∧ CurAt W' p v L ∧ W.grownBy W' (some p) := by
  have H := hide h
  have hp := h.lt
  clear h
  obtain ⟨w1, hW1, ho, hb⟩ : ∃ X, W.alloc (.cells #[] 3) = X ∧ OwnV 3 X W.heap.size (.slice (some ⟨W.heap.size, 0, none⟩) 0 0) (ints []) ∧ Below W.heap.size W X := ⟨_, rfl, own_empty _ _, below_alloc _ _⟩
  have C1 := hide (H.out.to hb)
  have G1 : Hid (W.grownBy w1 (some p)) := by rw [← hW1]; exact World.grownBy_alloc _ _ _
  have Ho := hide ho
  have hz1 := hb.size
  clear ho hb
  go_enter Try.func142, Try.ntmps142
  go_wp2_with fail
  clear hW1
  refine (l1BelowS p v L _ w1 C1.out hL (by omega)).mono ?_
  rintro e w2 ⟨n, hn, _, rfl, c2, g2⟩
  have hn7 := hn (by omega)
  have G2 := hide (grown_trans G1.out g2)
  have C2 := hide c2
  have O2 : Hid (∃ xs, Small xs ∧ xs.length = 0 ∧ OwnV 3 w2 W.heap.size (.slice (some ⟨W.heap.size, 0, none⟩) 0 0) (ints xs)) := ⟨[], ⟨by simp, by simp⟩, rfl, own_grown Ho.out g2 (fun j hj e => by
    have h1 : W.heap.size = j := Option.some.inj (show some W.heap.size = some j from hj)
    have h2 := Option.some.inj e
    omega)⟩
  clear c2 g2 hn
  go_wp2_with fail
  go_loopw [3, 5] (fun u i wr => ∃ k : Nat, k ≤ n ∧ i = .int .i64 k ∧ Hid (∃ xs, Small xs ∧ xs.length = k ∧ OwnV 3 wr W.heap.size u (ints xs)) ∧ Hid (CurAt wr p v L) ∧ Hid (W.grownBy wr (some p))) (fun _ i _ => n - (intOf i).toNat)
  case atStart => exact ⟨0, by omega, rfl, O2, C2, G2⟩
  case round =>
    obtain ⟨k, hk, rfl, hown, hc, hg⟩ := hrel
    obtain ⟨xs, hsm, hxl, ho⟩ := hown.out
    have Hsm := hide hsm
    have Ho2 := hide ho
    clear hsm ho hown
    by_cases hlt : k < n
    · go_wp2_with fail
      refine (l1BelowS p v L _ wr hc.out hL (by omega)).mono ?_
      rintro e w4 ⟨r, hr, _, rfl, c4, g4⟩
      have hr64 := hr (by omega)
      have hne : ∀ j, Value.ownBlock _ = some j → (some p : Option Nat) ≠ some j := fun j hj e => by
        have h1 := (own_block Ho2.out j hj).1
        have h2 := Option.some.inj e
        omega
      have ho4 := own_grown Ho2.out g4 hne
      have G4 := hide (grown_trans hg.out g4)
      have C4 := hide c4
      have hlen : xs.length < 17179869184 := by omega
      have hsz : W.heap.size ≤ w4.heap.size := G4.out.size
      clear c4 g4 hr hne
      go_wp2_with (at_builtin; refine wpList_appI ho4 (r : Int) Try.underlying36 infoI rfl _ _ rfl rfl rfl hlen hsz ?_; intro v' w5 hown5 hb5 hg5)
      have C5 : Hid (CurAt w5 p v L) := by
        have hb : ∀ i, i < W.heap.size → w5.heap[i]? = w4.heap[i]? := fun i hi => hb5.block i hi
        exact CurAt.low C4.out hp hb5
      have G5 : Hid (W.grownBy w5 (some p)) := grown_of_below G4.out hb5
      have O5 : Hid (∃ ys, Small ys ∧ ys.length = k + 1 ∧ OwnV 3 w5 W.heap.size v' (ints ys)) := ⟨xs ++ [(r : Int)], ⟨by rw [List.length_append]; simp; omega, fun x hx => by
        rcases List.mem_append.1 hx with hx | hx
        · exact Hsm.out.2 x hx
        · have : x = (r : Int) := by simpa using hx
          omega⟩, by rw [List.length_append, hxl]; rfl, hown5⟩
      go_wp2
      go_roundw
      case rel => exact ⟨k + 1, by omega, by go_num, O5, C5, G5⟩
      case measure => simp [intOf]; omega
    · have hkn : k = n := by omega
      subst hkn
      have hnp : ∀ j, Value.ownBlock _ = some j → (some p : Option Nat) ≠ some j := fun j hj e => by
        have h1 := (own_block Ho2.out j hj).1
        have h2 := Option.some.inj e
        omega
      have Hnp := hide hnp
      clear hnp
      by_cases hk0 : k = 0
      · subst hk0
        go_wp2
        go_ret
        exact ⟨_, xs, Hsm.out, rfl, Ho2.out, hc.out, hg.out⟩
      · have hkpos : 0 < k := by omega
        clear hlt
        go_wp2_with fail
        refine (l1OnceS p v L _ wr hc.out hL (by omega)).mono ?_
        rintro e w6 ⟨b, rfl, c6, g6⟩
        have C6 := hide c6
        have G6 := hide (grown_trans hg.out g6)
        have O6 := hide (own_grown Ho2.out g6 Hnp.out)
        clear c6 g6
        cases b
        · go_wp2
          go_ret
          exact ⟨_, xs, Hsm.out, rfl, O6.out, C6.out, G6.out⟩
        · go_wp2_with fail
          refine (pickLitIntS p v L [-1, 64, 63] _ w6 C6.out hL (by decide) (by decide)).mono ?_
          rintro e w7 ⟨x, hx, rfl, c7, g7⟩
          have C7 := hide c7
          have G7 := hide (grown_trans G6.out g7)
          have O7 := hide (own_grown O6.out g7 Hnp.out)
          have hx' : -1 ≤ x ∧ x ≤ 64 := by
            simp only [List.mem_cons, List.not_mem_nil, or_false] at hx
            omega
          clear c7 g7 hx
          rcases own_form O7.out with ⟨_, h0⟩ | ⟨g, cap, hv, hg1, hg2, hcap⟩
          · have h3 : xs = [] := by simpa [ints] using h0
            rw [h3] at hxl
            exact absurd hxl (by simp; omega)
          · rw [ints_length] at hv
            subst hv
            have hv' : (Value.slice (some ⟨g, 0, none⟩) xs.length cap) = .slice (some ⟨g, 0, none⟩) (ints xs).length cap := by rw [ints_length]
            have hx0 : 0 < xs.length := by omega
            obtain ⟨u, hu⟩ : ∃ u, (ints xs)[0]? = some u := ⟨_, List.getElem?_eq_getElem (by rw [ints_length]; exact hx0)⟩
            obtain ⟨hcg, hfg⟩ := own_cell O7.out hv' hu
            have hset := own_set O7.out hv' 0 (.int .i64 x)
            have hse : (ints xs).set 0 (.int .i64 x) = ints (xs.set 0 x) := (List.map_set).symm
            rw [hse] at hset
            have Hset := hide hset
            have Hsm2 : Hid (Small (xs.set 0 x)) := ⟨by rw [List.length_set]; exact Hsm.out.1, fun y hy => by
              rcases List.mem_or_eq_of_mem_set hy with h | h
              · exact Hsm.out.2 y h
              · rw [h]; exact hx'⟩
            have hgp : p ≠ g := by omega
            have C8 : Hid (CurAt (w7.setCell ⟨g, 0, none⟩ (.int .i64 x)) p v L) := CurAt.low C7.out hp ((Below.refl W.heap.size w7).setCell (by exact hg1) _)
            have G8 : Hid (W.grownBy (w7.setCell ⟨g, 0, none⟩ (.int .i64 x)) (some p)) := grown_of_below G7.out ((Below.refl W.heap.size w7).setCell (by exact hg1) _)
            have hxl0 : (xs.set 0 x).length = xs.length := List.length_set
            have HO8 : Hid (OwnV 3 (w7.setCell ⟨g, 0, none⟩ (.int .i64 x)) W.heap.size (.slice (some ⟨g, 0, none⟩) xs.length cap) (ints (xs.set 0 x))) := Hset.out
            clear hv' hu hset hse hcap
            go_wp2
            go_ret
            exact ⟨.slice (some ⟨g, 0, none⟩) k cap, xs.set 0 x, Hsm2.out, rfl, by rw [← hxl]; exact HO8.out, C8.out, G8.out⟩
theorem drawMaximalSetsS (v : Value) (L : List UInt8) (w : World) (h : BytesAt w w.heap.size v L) (hL : L.length ≤ 1073741824) :
    Calls Try.prog 82 #[v] w fun e w' => ∃ (u : Value) (xs : List Int), Small xs ∧ e = .returned u ∧ OwnV 3 w' w.heap.size u (ints xs) ∧ Below w.heap.size w w' := by
  have H := hide h
  clear h
  go_enter Try.func82, Try.ntmps82
  go_wp2_with fail
  refine (l1NewS v L w H.out hL).mono ?_
  rintro e w1 ⟨p, rfl, hp, c1, b1⟩
  have B1 := hide b1
  have C1 := hide c1
  clear b1 c1
  go_wp2_with fail
  refine (l2SetsS p v L w1 C1.out hL).mono ?_
  rintro e w2 ⟨u, xs, hsm, rfl, o2, _, g2⟩
  have B2 := hide (cur_below B1.out B1.out.size g2 hp)
  have O2 := hide (own_mono o2 B1.out.size)
  have Hsm := hide hsm
  clear o2 g2 hsm
  go_wp2
  go_ret
  exact ⟨_, xs, Hsm.out, rfl, O2.out, B2.out⟩

theorem setTxtOf_len2 (s : Int) : (setTxtOf s).length ≤ 6 := by
  unfold setTxtOf
  split
  · unfold setTxt
    split
    · simp
    · exact txtTo_len _ 6
  · simp
/-- Some text of bounded length. -/
theorem l1TurnedS (p : Nat) (v : Value) (L : List UInt8) (l : List UInt8) (u : Value) (ls : List (List UInt8)) (W : World) (h : CurAt W p v L) (hL : L.length ≤ 1073741824) (hl : l.length ≤ 1048576) (hr : StrsAt W W.heap.size u ls) (h0 : 0 < ls.length) (h1 : ls.length ≤ 1048576) (hls : ∀ x ∈ ls, x.length ≤ 1048576) (hne : ∀ j, u.ownBlock = some j → j ≠ p) (hb : ∀ b o n c, u = .slice (some ⟨b, o, none⟩) n c → b ≠ p) :
    Calls Try.prog 141 #[.pointer (some ⟨p, 0, none⟩), .string ⟨l.toArray⟩, u] W fun e W' => ∃ s : List UInt8, s.length ≤ 3145728 ∧ e = .returned (.string ⟨s.toArray⟩) ∧ CurAt W' p v L ∧ W.grownBy W' (some p) := by
  obtain ⟨A, c, hu, _, he⟩ := formS_ hr
  have H := hide h
  have Hr := hide hr
  have Hls := hide hls
  have Hne := hide hne
  have Hb := hide hb
  subst hu
  have hlt := h.lt
  clear h he hls hne hb
  go_enter Try.func141, Try.ntmps141
  go_wp2_with fail
  refine (l1BelowS p v L _ W H.out hL (by omega)).mono ?_
  rintro e w1 ⟨at_, hat, _, rfl, c1, g1⟩
  have hat' := hat (by omega)
  have C1 := hide c1
  have G1 := hide g1
  have R1 : Hid (StrsAt w1 w1.heap.size (.slice A ls.length c) ls) := by
    obtain ⟨A2, c2, hv2, hc2, hx2⟩ := Hr.out
    refine ⟨A2, c2, hv2, hc2, fun hn => ?_⟩
    obtain ⟨b, o, hA, hbl, hcl⟩ := hx2 hn
    refine ⟨b, o, hA, Nat.lt_of_lt_of_le hbl g1.size, fun i x hi => g1.cell (hcl i x hi) (fun e => ?_)⟩
    have h2 : b = p := Option.some.inj e
    subst hA
    exact Hb.out b o _ _ hv2 h2
  clear c1 g1 hat
  go_wp2_with fail
  refine (l1BelowS p v L _ w1 C1.out hL (by omega)).mono ?_
  rintro e w2 ⟨r, hr2, _, rfl, c2, g2⟩
  have C2 := hide c2
  have G2 := hide (grown_trans G1.out g2)
  have R2 : Hid (StrsAt w2 w2.heap.size (.slice A ls.length c) ls) := by
    obtain ⟨A2, c2, hv2, hc2, hx2⟩ := R1.out
    refine ⟨A2, c2, hv2, hc2, fun hn => ?_⟩
    obtain ⟨b, o, hA, hbl, hcl⟩ := hx2 hn
    refine ⟨b, o, hA, Nat.lt_of_lt_of_le hbl g2.size, fun i x hi => g2.cell (hcl i x hi) (fun e => ?_)⟩
    have h2 : b = p := Option.some.inj e
    subst hA
    exact Hb.out b o _ _ hv2 h2
  clear c2 g2 hr2
  have hx1 : (⟨l.toArray⟩ : ByteArray).extract 0 at_ = ⟨(l.take at_).toArray⟩ := by rw [cut_eq]; simp
  have hx2 : (⟨l.toArray⟩ : ByteArray).extract at_ l.length = ⟨(l.drop at_).toArray⟩ := by rw [cut_eq, List.take_of_length_le (by rw [List.length_drop]; omega)]
  by_cases r0 : r = 0
  · subst r0
    go_wp2_with fail
    have C2d : CurAt w2.drew p v L := C2.out
    have R2d : StrsAt w2.drew w2.drew.heap.size (.slice A ls.length c) ls := R2.out
    have G2d : W.grownBy w2.drew (some p) := grown_drew G2.out
    have hcat : ∀ x : List UInt8, (⟨(l.take at_).toArray⟩ : ByteArray) ++ ⟨x.toArray⟩ = ⟨(l.take at_ ++ x).toArray⟩ := fun x => by
      apply ByteArray.ext
      simp
    have hcat2 : ∀ x : List UInt8, (⟨(l.take at_ ++ x).toArray⟩ : ByteArray) ++ ⟨(l.drop at_).toArray⟩ = ⟨((l.take at_ ++ x) ++ l.drop at_).toArray⟩ := fun x => by
      apply ByteArray.ext
      simp
    have hatN : at_ ≤ l.length := by omega
    have hat0 : (0 : Int) ≤ (at_ : Int) := by omega
    have hat1 : (at_ : Int) ≤ (l.length : Int) := by omega
    have htl : (l.take at_).length = at_ := by rw [List.length_take]; omega
    have hdl : (l.drop at_).length = l.length - at_ := List.length_drop
    go_region_with (go_at_call 105; refine (l1PickS p v L _ ls _ C2d hL R2d h0 h1 Hne.out Hb.out).mono ?_; rintro e w3 ⟨x, hx, rfl, c3, g3⟩; have hxl := Hls.out x hx)
    have C3 := hide c3
    have G3 := hide (grown_trans G2d g3)
    clear c3 g3 C2d R2d G2d
    go_wp2
    go_ret
    refine ⟨l.take at_ ++ (x ++ l.drop at_), ?_, rfl, C3.out, G3.out⟩
    rw [List.length_append, List.length_append]
    omega
  · by_cases r1 : r = 1
    · subst r1
      have hat0 : (0 : Int) ≤ (at_ : Int) := by omega
      have hat1 : (at_ : Int) ≤ (l.length : Int) := by omega
      go_wp2
      go_ret
      exact ⟨l.take at_, by rw [List.length_take]; omega, rfl, C2.out, G2.out⟩
    · have hr0 : ((r : Int) == 0) = false := by rw [beq_eq_false_iff_ne]; omega
      have hr1 : ((r : Int) == 1) = false := by rw [beq_eq_false_iff_ne]; omega
      go_wp2
      go_ret
      exact ⟨l, by omega, rfl, C2.out, G2.out⟩
theorem drawParseSetS (v : Value) (L : List UInt8) (w : World) (h : BytesAt w w.heap.size v L) (hL : L.length ≤ 1073741824) :
    Calls Try.prog 79 #[v] w fun e w' => ∃ s : List UInt8, s.length ≤ 3145728 ∧ e = .returned (.string ⟨s.toArray⟩) ∧ Below w.heap.size w w' := by
  have H := hide h
  clear h
  go_enter Try.func79, Try.ntmps79
  go_wp2_with fail
  refine (l1NewS v L w H.out hL).mono ?_
  rintro e w1 ⟨p, rfl, hp, c1, b1⟩
  have B1 := hide b1
  have C1 := hide c1
  clear b1 c1
  go_wp2_with fail
  refine (l1BelowS p v L _ w1 C1.out hL (by omega)).mono ?_
  rintro e w2 ⟨r, hr, _, rfl, c2, g2⟩
  have B2 := hide (cur_below B1.out B1.out.size g2 hp)
  have C2 := hide c2
  clear c2 g2 hr
  go_wp2_with fail
  refine (setTextS (r : Int) w2).mono ?_
  rintro e w3 ⟨rfl, b3⟩
  have hlen := setTxtOf_len2 (r : Int)
  have B3 := hide (nxt B2.out b3)
  have C3 := hide (C2.out.to b3)
  clear b3
  go_wp2_with fail
  refine (l1TurnedS p v L (setTxtOf (r : Int)) _ [[97], [102], [45], [103], [98]] _ (C3.out.to (below_alloc _ _)) hL (by omega) (lit_strs w3 [[97], [102], [45], [103], [98]] _ (by decide)) (by decide) (by decide) (by decide) (fun j hj => ?_) (fun b o n c e => ?_)).mono ?_
  · have h1 : w3.heap.size = j := Option.some.inj (show some w3.heap.size = some j from hj)
    have h2 := C3.out.lt
    omega
  · cases e
    have h2 := C3.out.lt
    omega
  rintro e w4 ⟨s, hs, rfl, _, g4⟩
  have B4 := hide (cur_below B3.out B3.out.size (grown_of_alloc g4) hp)
  clear g4
  go_wp2
  go_ret
  exact ⟨s, hs, rfl, B4.out⟩
end Go.Proofs.Ytmkacjpjcfffmaa
