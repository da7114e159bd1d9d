/- Texts of one kind, laid together (5 of them). -/
import Derived.Test.YtmkacjpjcfffmaaP2
import Derived.Test.YtmkacjpjcfffmaaP3
import Derived.Test.YtmkacjpjcfffmaaP4
namespace Go.Proofs.Ytmkacjpjcfffmaa
/- Walks: the draws of sets: l2Sets, l1Turned, DrawIsSet, DrawBeforeSet, DrawParseSet, DrawMaximalSets; sameInts. -/
section
open Go.RowKit

theorem sameIntsS (v1 v2 : Value) (xs ys : List Int) (w : World) (h1 : IntsAt w w.heap.size v1 xs) (h2 : IntsAt w w.heap.size v2 ys) (hl1 : xs.length ≤ 1073741824) (_hl2 : ys.length ≤ 1073741824) :
    Calls Try.prog 38 #[v1, v2] w fun e w' => RetB w (decide (xs = ys)) e w' := by
  obtain ⟨A1, c1, rfl, hc1, he1⟩ := form_ h1
  obtain ⟨A2, c2, rfl, hc2, he2⟩ := form_ h2
  clear h1 h2
  by_cases hl : xs.length = ys.length
  · have hlen := hide hl
    have hbe : ((xs.length : Int) != (ys.length : Int)) = false := by rw [hl]; simp
    have h12 : xs.length ≤ ys.length := by omega
    have h21 : ys.length ≤ xs.length := by omega
    clear hl
    go_enter Try.func38, Try.ntmps38
    go_wp2
    go_loopw [5] (fun i wr => ∃ (k n : Nat), k ≤ xs.length ∧ i = .int .i64 k ∧ xs.take k = ys.take k ∧ wr = w.drewN n) (fun i _ => xs.length - (intOf i).toNat)
    case atStart => exact ⟨0, 0, by omega, rfl, by simp, rfl⟩
    case round =>
      obtain ⟨k, n, hk, rfl, ht, rfl⟩ := hrel
      have Ht := hide ht
      clear ht
      by_cases hlt : k < xs.length
      · have hlt2 : k < ys.length := by omega
        obtain ⟨b1, o1, x, rfl, hb1, hx, hcx⟩ := he1 k hlt
        obtain ⟨b2, o2, y, rfl, hb2, hy, hcy⟩ := he2 k hlt2
        have Hx := hide hx
        have Hy := hide hy
        clear hx hy he1 he2
        by_cases hxy : x = y
        · have hne : (x != y) = false := by simp [hxy]
          have Hxy := hide hxy
          clear hxy
          go_wp2
          go_quiet (fail)
          go_wp2
          go_roundw
          case rel => exact ⟨k + 1, _, by omega, by go_num, by rw [take_snoc _ _ _ Hx.out, take_snoc _ _ _ Hy.out, Ht.out, Hxy.out], rfl⟩
          case measure => simp [intOf]; omega
        · have hne : (x != y) = true := by simp [hxy]
          have Hxy := hide hxy
          clear hxy
          go_wp2
          go_quiet (fail)
          go_wp2
          go_ret
          refine ⟨ret_bool ?_, below_drewN (below_drewN (Below.refl _ _) _) _⟩
          symm
          apply decide_eq_false
          intro h
          have h1 := Hx.out
          have h2 := Hy.out
          rw [h, h2] at h1
          exact Hxy.out (Option.some.inj h1).symm
      · clear he1 he2
        go_wp2
        go_ret
        refine ⟨ret_bool ?_, below_drewN (Below.refl _ _) _⟩
        symm
        apply decide_eq_true
        have := Ht.out
        rwa [take_all _ _ (by omega), take_all _ _ (by omega)] at this
  · have hlen := hide hl
    have hbe : ((xs.length : Int) != (ys.length : Int)) = true := by simp; omega
    clear hl he1 he2
    go_enter Try.func38, Try.ntmps38
    go_wp2
    go_ret
    refine ⟨ret_bool ?_, Below.refl _ _⟩
    symm
    apply decide_eq_false
    intro h
    exact hlen.out (by rw [h])
theorem sameInts_same (v1 v2 : Value) (xs : List Int) (w : World) (h1 : IntsAt w w.heap.size v1 xs) (h2 : IntsAt w w.heap.size v2 xs) (hl : xs.length ≤ 1073741824) :
    Calls Try.prog 38 #[v1, v2] w fun e w' => RetB w true e w' := by
  have h := sameIntsS v1 v2 xs xs w h1 h2 hl hl
  rwa [show decide (xs = xs) = true by simp] at h

/-- Two small ints are returned. -/
def Ret2 (w : World) (e : Ending) (w' : World) : Prop := ∃ a b : Int, -100 ≤ a ∧ a ≤ 100 ∧ -100 ≤ b ∧ b ≤ 100 ∧ e = .returned (.tuple #[.int .i64 a, .int .i64 b]) ∧ Below w.heap.size w w'
theorem drawIsSetS (v : Value) (L : List UInt8) (w : World) (h : BytesAt w w.heap.size v L) (hL : L.length ≤ 1073741824) :
    Calls Try.prog 78 #[v] w fun e w' => Ret2 w e w' := by
  have H := hide h
  clear h
  go_enter Try.func78, Try.ntmps78
  go_wp2_with fail
  refine (l1NewS v L w H.out hL).mono ?_
  rintro e w1 ⟨p, rfl, hp, c1, b1⟩
  have B1 := hide b1
  have C1 := hide c1
  clear b1 c1
  go_wp2_with fail
  refine (l1BelowS p v L _ w1 C1.out hL (by omega)).mono ?_
  rintro e w2 ⟨r, hr, _, rfl, c2, g2⟩
  have hr' := hr (by omega)
  have B2 := hide (cur_below B1.out B1.out.size g2 hp)
  have C2 := hide c2
  clear c2 g2 hr
  go_wp2_with fail
  refine (l1BelowS p v L _ w2 C2.out hL (by omega)).mono ?_
  rintro e w3 ⟨s, hs, _, rfl, c3, g3⟩
  have hs' := hs (by omega)
  have B3 := hide (cur_below B2.out B2.out.size g3 hp)
  clear c3 g3 hs
  go_wp2
  go_ret2
  exact ⟨_, _, by omega, by omega, by omega, by omega, rfl, B3.out⟩
theorem drawBeforeSetS (v : Value) (L : List UInt8) (w : World) (h : BytesAt w w.heap.size v L) (hL : L.length ≤ 1073741824) :
    Calls Try.prog 85 #[v] w fun e w' => Ret2 w e w' := by
  have H := hide h
  clear h
  go_enter Try.func85, Try.ntmps85
  go_wp2_with fail
  refine (l1NewS v L w H.out hL).mono ?_
  rintro e w1 ⟨p, rfl, hp, c1, b1⟩
  have B1 := hide b1
  have C1 := hide c1
  clear b1 c1
  go_wp2_with fail
  refine (l1BelowS p v L _ w1 C1.out hL (by omega)).mono ?_
  rintro e w2 ⟨r, hr, _, rfl, c2, g2⟩
  have hr' := hr (by omega)
  have B2 := hide (cur_below B1.out B1.out.size g2 hp)
  have C2 := hide c2
  clear c2 g2 hr
  go_wp2_with fail
  refine (l1BelowS p v L _ w2 C2.out hL (by omega)).mono ?_
  rintro e w3 ⟨s, hs, _, rfl, c3, g3⟩
  have hs' := hs (by omega)
  have B3 := hide (cur_below B2.out B2.out.size g3 hp)
  clear c3 g3 hs
  go_wp2
  go_ret2
  exact ⟨_, _, by omega, by omega, by omega, by omega, rfl, B3.out⟩

/-- Few small ints. -/
def Small (xs : List Int) : Prop := xs.length ≤ 6 ∧ ∀ x ∈ xs, -1 ≤ x ∧ x ≤ 64
theorem l2SetsS (p : Nat) (v : Value) (L : List UInt8) (W : World) (h : CurAt W p v L) (hL : L.length ≤ 1073741824) :
    Calls Try.prog 142 #[.pointer (some ⟨p, 0, none⟩)] W fun e W' => ∃ (u : Value) (xs : List Int), Small xs ∧ e = .returned u ∧ OwnV 3 W' W.heap.size u (ints xs) ∧ CurAt W' p v L ∧ W.grownBy W' (some p) := by
  have H := hide h
  have hp := h.lt
  clear h
  obtain ⟨w1, hW1, ho, hb⟩ : ∃ X, W.alloc (.cells #[] 3) = X ∧ OwnV 3 X W.heap.size (.slice (some ⟨W.heap.size, 0, none⟩) 0 0) (ints []) ∧ Below W.heap.size W X := ⟨_, rfl, own_empty _ _, below_alloc _ _⟩
  have C1 := hide (H.out.to hb)
  have G1 : Hid (W.grownBy w1 (some p)) := by rw [← hW1]; exact World.grownBy_alloc _ _ _
  have Ho := hide ho
  have hz1 := hb.size
  clear ho hb
  go_enter Try.func142, Try.ntmps142
  go_wp2_with fail
  clear hW1
  refine (l1BelowS p v L _ w1 C1.out hL (by omega)).mono ?_
  rintro e w2 ⟨n, hn, _, rfl, c2, g2⟩
  have hn7 := hn (by omega)
  have G2 := hide (grown_trans G1.out g2)
  have C2 := hide c2
  have O2 : Hid (∃ xs, Small xs ∧ xs.length = 0 ∧ OwnV 3 w2 W.heap.size (.slice (some ⟨W.heap.size, 0, none⟩) 0 0) (ints xs)) := ⟨[], ⟨by simp, by simp⟩, rfl, own_grown Ho.out g2 (fun j hj e => by
    have h1 : W.heap.size = j := Option.some.inj (show some W.heap.size = some j from hj)
    have h2 := Option.some.inj e
    omega)⟩
  clear c2 g2 hn
  go_wp2_with fail
  go_loopw [3, 5] (fun u i wr => ∃ k : Nat, k ≤ n ∧ i = .int .i64 k ∧ Hid (∃ xs, Small xs ∧ xs.length = k ∧ OwnV 3 wr W.heap.size u (ints xs)) ∧ Hid (CurAt wr p v L) ∧ Hid (W.grownBy wr (some p))) (fun _ i _ => n - (intOf i).toNat)
  case atStart => exact ⟨0, by omega, rfl, O2, C2, G2⟩
  case round =>
    obtain ⟨k, hk, rfl, hown, hc, hg⟩ := hrel
    obtain ⟨xs, hsm, hxl, ho⟩ := hown.out
    have Hsm := hide hsm
    have Ho2 := hide ho
    clear hsm ho hown
    by_cases hlt : k < n
    · go_wp2_with fail
      refine (l1BelowS p v L _ wr hc.out hL (by omega)).mono ?_
      rintro e w4 ⟨r, hr, _, rfl, c4, g4⟩
      have hr64 := hr (by omega)
      have hne : ∀ j, Value.ownBlock _ = some j → (some p : Option Nat) ≠ some j := fun j hj e => by
        have h1 := (own_block Ho2.out j hj).1
        have h2 := Option.some.inj e
        omega
      have ho4 := own_grown Ho2.out g4 hne
      have G4 := hide (grown_trans hg.out g4)
      have C4 := hide c4
      have hlen : xs.length < 17179869184 := by omega
      have hsz : W.heap.size ≤ w4.heap.size := G4.out.size
      clear c4 g4 hr hne
      go_wp2_with (at_builtin; refine wpList_appI ho4 (r : Int) Try.underlying36 infoI rfl _ _ rfl rfl rfl hlen hsz ?_; intro v' w5 hown5 hb5 hg5)
      have C5 : Hid (CurAt w5 p v L) := by
        have hb : ∀ i, i < W.heap.size → w5.heap[i]? = w4.heap[i]? := fun i hi => hb5.block i hi
        exact CurAt.low C4.out hp hb5
      have G5 : Hid (W.grownBy w5 (some p)) := grown_of_below G4.out hb5
      have O5 : Hid (∃ ys, Small ys ∧ ys.length = k + 1 ∧ OwnV 3 w5 W.heap.size v' (ints ys)) := ⟨xs ++ [(r : Int)], ⟨by rw [List.length_append]; simp; omega, fun x hx => by
        rcases List.mem_append.1 hx with hx | hx
        · exact Hsm.out.2 x hx
        · have : x = (r : Int) := by simpa using hx
          omega⟩, by rw [List.length_append, hxl]; rfl, hown5⟩
      go_wp2
      go_roundw
      case rel => exact ⟨k + 1, by omega, by go_num, O5, C5, G5⟩
      case measure => simp [intOf]; omega
    · have hkn : k = n := by omega
      subst hkn
      have hnp : ∀ j, Value.ownBlock _ = some j → (some p : Option Nat) ≠ some j := fun j hj e => by
        have h1 := (own_block Ho2.out j hj).1
        have h2 := Option.some.inj e
        omega
      have Hnp := hide hnp
      clear hnp
      by_cases hk0 : k = 0
      · subst hk0
        go_wp2
        go_ret
        exact ⟨_, xs, Hsm.out, rfl, Ho2.out, hc.out, hg.out⟩
      · have hkpos : 0 < k := by omega
        clear hlt
        go_wp2_with fail
        refine (l1OnceS p v L _ wr hc.out hL (by omega)).mono ?_
        rintro e w6 ⟨b, rfl, c6, g6⟩
        have C6 := hide c6
        have G6 := hide (grown_trans hg.out g6)
        have O6 := hide (own_grown Ho2.out g6 Hnp.out)
        clear c6 g6
        cases b
        · go_wp2
          go_ret
          exact ⟨_, xs, Hsm.out, rfl, O6.out, C6.out, G6.out⟩
        · go_wp2_with fail
          refine (pickLitIntS p v L [-1, 64, 63] _ w6 C6.out hL (by decide) (by decide)).mono ?_
          rintro e w7 ⟨x, hx, rfl, c7, g7⟩
          have C7 := hide c7
          have G7 := hide (grown_trans G6.out g7)
          have O7 := hide (own_grown O6.out g7 Hnp.out)
          have hx' : -1 ≤ x ∧ x ≤ 64 := by
            simp only [List.mem_cons, List.not_mem_nil, or_false] at hx
            omega
          clear c7 g7 hx
          rcases own_form O7.out with ⟨_, h0⟩ | ⟨g, cap, hv, hg1, hg2, hcap⟩
          · have h3 : xs = [] := by simpa [ints] using h0
            rw [h3] at hxl
            exact absurd hxl (by simp; omega)
          · rw [ints_length] at hv
            subst hv
            have hv' : (Value.slice (some ⟨g, 0, none⟩) xs.length cap) = .slice (some ⟨g, 0, none⟩) (ints xs).length cap := by rw [ints_length]
            have hx0 : 0 < xs.length := by omega
            obtain ⟨u, hu⟩ : ∃ u, (ints xs)[0]? = some u := ⟨_, List.getElem?_eq_getElem (by rw [ints_length]; exact hx0)⟩
            obtain ⟨hcg, hfg⟩ := own_cell O7.out hv' hu
            have hset := own_set O7.out hv' 0 (.int .i64 x)
            have hse : (ints xs).set 0 (.int .i64 x) = ints (xs.set 0 x) := (List.map_set).symm
            rw [hse] at hset
            have Hset := hide hset
            have Hsm2 : Hid (Small (xs.set 0 x)) := ⟨by rw [List.length_set]; exact Hsm.out.1, fun y hy => by
              rcases List.mem_or_eq_of_mem_set hy with h | h
              · exact Hsm.out.2 y h
              · rw [h]; exact hx'⟩
            have hgp : p ≠ g := by omega
            have C8 : Hid (CurAt (w7.setCell ⟨g, 0, none⟩ (.int .i64 x)) p v L) := CurAt.low C7.out hp ((Below.refl W.heap.size w7).setCell (by exact hg1) _)
            have G8 : Hid (W.grownBy (w7.setCell ⟨g, 0, none⟩ (.int .i64 x)) (some p)) := grown_of_below G7.out ((Below.refl W.heap.size w7).setCell (by exact hg1) _)
            have hxl0 : (xs.set 0 x).length = xs.length := List.length_set
            have HO8 : Hid (OwnV 3 (w7.setCell ⟨g, 0, none⟩ (.int .i64 x)) W.heap.size (.slice (some ⟨g, 0, none⟩) xs.length cap) (ints (xs.set 0 x))) := Hset.out
            clear hv' hu hset hse hcap
            go_wp2
            go_ret
            exact ⟨.slice (some ⟨g, 0, none⟩) k cap, xs.set 0 x, Hsm2.out, rfl, by rw [← hxl]; exact HO8.out, C8.out, G8.out⟩
theorem drawMaximalSetsS (v : Value) (L : List UInt8) (w : World) (h : BytesAt w w.heap.size v L) (hL : L.length ≤ 1073741824) :
    Calls Try.prog 82 #[v] w fun e w' => ∃ (u : Value) (xs : List Int), Small xs ∧ e = .returned u ∧ OwnV 3 w' w.heap.size u (ints xs) ∧ Below w.heap.size w w' := by
  have H := hide h
  clear h
  go_enter Try.func82, Try.ntmps82
  go_wp2_with fail
  refine (l1NewS v L w H.out hL).mono ?_
  rintro e w1 ⟨p, rfl, hp, c1, b1⟩
  have B1 := hide b1
  have C1 := hide c1
  clear b1 c1
  go_wp2_with fail
  refine (l2SetsS p v L w1 C1.out hL).mono ?_
  rintro e w2 ⟨u, xs, hsm, rfl, o2, _, g2⟩
  have B2 := hide (cur_below B1.out B1.out.size g2 hp)
  have O2 := hide (own_mono o2 B1.out.size)
  have Hsm := hide hsm
  clear o2 g2 hsm
  go_wp2
  go_ret
  exact ⟨_, xs, Hsm.out, rfl, O2.out, B2.out⟩

theorem setTxtOf_len2 (s : Int) : (setTxtOf s).length ≤ 6 := by
  unfold setTxtOf
  split
  · unfold setTxt
    split
    · simp
    · exact txtTo_len _ 6
  · simp
/-- Some text of bounded length. -/
theorem l1TurnedS (p : Nat) (v : Value) (L : List UInt8) (l : List UInt8) (u : Value) (ls : List (List UInt8)) (W : World) (h : CurAt W p v L) (hL : L.length ≤ 1073741824) (hl : l.length ≤ 1048576) (hr : StrsAt W W.heap.size u ls) (h0 : 0 < ls.length) (h1 : ls.length ≤ 1048576) (hls : ∀ x ∈ ls, x.length ≤ 1048576) (hne : ∀ j, u.ownBlock = some j → j ≠ p) (hb : ∀ b o n c, u = .slice (some ⟨b, o, none⟩) n c → b ≠ p) :
    Calls Try.prog 141 #[.pointer (some ⟨p, 0, none⟩), .string ⟨l.toArray⟩, u] W fun e W' => ∃ s : List UInt8, s.length ≤ 3145728 ∧ e = .returned (.string ⟨s.toArray⟩) ∧ CurAt W' p v L ∧ W.grownBy W' (some p) := by
  obtain ⟨A, c, hu, _, he⟩ := formS_ hr
  have H := hide h
  have Hr := hide hr
  have Hls := hide hls
  have Hne := hide hne
  have Hb := hide hb
  subst hu
  have hlt := h.lt
  clear h he hls hne hb
  go_enter Try.func141, Try.ntmps141
  go_wp2_with fail
  refine (l1BelowS p v L _ W H.out hL (by omega)).mono ?_
  rintro e w1 ⟨at_, hat, _, rfl, c1, g1⟩
  have hat' := hat (by omega)
  have C1 := hide c1
  have G1 := hide g1
  have R1 : Hid (StrsAt w1 w1.heap.size (.slice A ls.length c) ls) := by
    obtain ⟨A2, c2, hv2, hc2, hx2⟩ := Hr.out
    refine ⟨A2, c2, hv2, hc2, fun hn => ?_⟩
    obtain ⟨b, o, hA, hbl, hcl⟩ := hx2 hn
    refine ⟨b, o, hA, Nat.lt_of_lt_of_le hbl g1.size, fun i x hi => g1.cell (hcl i x hi) (fun e => ?_)⟩
    have h2 : b = p := Option.some.inj e
    subst hA
    exact Hb.out b o _ _ hv2 h2
  clear c1 g1 hat
  go_wp2_with fail
  refine (l1BelowS p v L _ w1 C1.out hL (by omega)).mono ?_
  rintro e w2 ⟨r, hr2, _, rfl, c2, g2⟩
  have C2 := hide c2
  have G2 := hide (grown_trans G1.out g2)
  have R2 : Hid (StrsAt w2 w2.heap.size (.slice A ls.length c) ls) := by
    obtain ⟨A2, c2, hv2, hc2, hx2⟩ := R1.out
    refine ⟨A2, c2, hv2, hc2, fun hn => ?_⟩
    obtain ⟨b, o, hA, hbl, hcl⟩ := hx2 hn
    refine ⟨b, o, hA, Nat.lt_of_lt_of_le hbl g2.size, fun i x hi => g2.cell (hcl i x hi) (fun e => ?_)⟩
    have h2 : b = p := Option.some.inj e
    subst hA
    exact Hb.out b o _ _ hv2 h2
  clear c2 g2 hr2
  have hx1 : (⟨l.toArray⟩ : ByteArray).extract 0 at_ = ⟨(l.take at_).toArray⟩ := by rw [cut_eq]; simp
  have hx2 : (⟨l.toArray⟩ : ByteArray).extract at_ l.length = ⟨(l.drop at_).toArray⟩ := by rw [cut_eq, List.take_of_length_le (by rw [List.length_drop]; omega)]
  by_cases r0 : r = 0
  · subst r0
    go_wp2_with fail
    have C2d : CurAt w2.drew p v L := C2.out
    have R2d : StrsAt w2.drew w2.drew.heap.size (.slice A ls.length c) ls := R2.out
    have G2d : W.grownBy w2.drew (some p) := grown_drew G2.out
    have hcat : ∀ x : List UInt8, (⟨(l.take at_).toArray⟩ : ByteArray) ++ ⟨x.toArray⟩ = ⟨(l.take at_ ++ x).toArray⟩ := fun x => by
      apply ByteArray.ext
      simp
    have hcat2 : ∀ x : List UInt8, (⟨(l.take at_ ++ x).toArray⟩ : ByteArray) ++ ⟨(l.drop at_).toArray⟩ = ⟨((l.take at_ ++ x) ++ l.drop at_).toArray⟩ := fun x => by
      apply ByteArray.ext
      simp
    have hatN : at_ ≤ l.length := by omega
    have hat0 : (0 : Int) ≤ (at_ : Int) := by omega
    have hat1 : (at_ : Int) ≤ (l.length : Int) := by omega
    have htl : (l.take at_).length = at_ := by rw [List.length_take]; omega
    have hdl : (l.drop at_).length = l.length - at_ := List.length_drop
    go_region_with (go_at_call 105; refine (l1PickS p v L _ ls _ C2d hL R2d h0 h1 Hne.out Hb.out).mono ?_; rintro e w3 ⟨x, hx, rfl, c3, g3⟩; have hxl := Hls.out x hx)
    have C3 := hide c3
    have G3 := hide (grown_trans G2d g3)
    clear c3 g3 C2d R2d G2d
    go_wp2
    go_ret
    refine ⟨l.take at_ ++ (x ++ l.drop at_), ?_, rfl, C3.out, G3.out⟩
    rw [List.length_append, List.length_append]
    omega
  · by_cases r1 : r = 1
    · subst r1
      have hat0 : (0 : Int) ≤ (at_ : Int) := by omega
      have hat1 : (at_ : Int) ≤ (l.length : Int) := by omega
      go_wp2
      go_ret
      exact ⟨l.take at_, by rw [List.length_take]; omega, rfl, C2.out, G2.out⟩
    · have hr0 : ((r : Int) == 0) = false := by rw [beq_eq_false_iff_ne]; omega
      have hr1 : ((r : Int) == 1) = false := by rw [beq_eq_false_iff_ne]; omega
      go_wp2
      go_ret
      exact ⟨l, by omega, rfl, C2.out, G2.out⟩
theorem drawParseSetS (v : Value) (L : List UInt8) (w : World) (h : BytesAt w w.heap.size v L) (hL : L.length ≤ 1073741824) :
    Calls Try.prog 79 #[v] w fun e w' => ∃ s : List UInt8, s.length ≤ 3145728 ∧ e = .returned (.string ⟨s.toArray⟩) ∧ Below w.heap.size w w' := by
  have H := hide h
  clear h
  go_enter Try.func79, Try.ntmps79
  go_wp2_with fail
  refine (l1NewS v L w H.out hL).mono ?_
  rintro e w1 ⟨p, rfl, hp, c1, b1⟩
  have B1 := hide b1
  have C1 := hide c1
  clear b1 c1
  go_wp2_with fail
  refine (l1BelowS p v L _ w1 C1.out hL (by omega)).mono ?_
  rintro e w2 ⟨r, hr, _, rfl, c2, g2⟩
  have B2 := hide (cur_below B1.out B1.out.size g2 hp)
  have C2 := hide c2
  clear c2 g2 hr
  go_wp2_with fail
  refine (setTextS (r : Int) w2).mono ?_
  rintro e w3 ⟨rfl, b3⟩
  have hlen := setTxtOf_len2 (r : Int)
  have B3 := hide (nxt B2.out b3)
  have C3 := hide (C2.out.to b3)
  clear b3
  go_wp2_with fail
  refine (l1TurnedS p v L (setTxtOf (r : Int)) _ [[97], [102], [45], [103], [98]] _ (C3.out.to (below_alloc _ _)) hL (by omega) (lit_strs w3 [[97], [102], [45], [103], [98]] _ (by decide)) (by decide) (by decide) (by decide) (fun j hj => ?_) (fun b o n c e => ?_)).mono ?_
  · have h1 : w3.heap.size = j := Option.some.inj (show some w3.heap.size = some j from hj)
    have h2 := C3.out.lt
    omega
  · cases e
    have h2 := C3.out.lt
    omega
  rintro e w4 ⟨s, hs, rfl, _, g4⟩
  have B4 := hide (cur_below B3.out B3.out.size (grown_of_alloc g4) hp)
  clear g4
  go_wp2
  go_ret
  exact ⟨s, hs, rfl, B4.out⟩
end

/- Walks: the laws' helpers on complexes: copies, sizes, comparing, marking. -/
section
open Go.RowKit

theorem copied_set (xs : List Int) (i : Nat) (x : Int) (h : xs[i]? = some x) : (xs.take i ++ List.replicate (xs.length - i) 0).set i x = xs.take (i + 1) ++ List.replicate (xs.length - (i + 1)) 0 := by
  have hl := (List.getElem?_eq_some_iff.1 h).1
  have ht : (xs.take i).length = i := by rw [List.length_take]; omega
  rw [List.set_append_right _ _ (by omega), ht, Nat.sub_self, show xs.length - i = (xs.length - (i + 1)) + 1 by omega, List.replicate_succ, List.set_cons_zero, take_snoc _ _ _ h]
  simp
theorem copied_len (xs : List Int) (i : Nat) (h : i ≤ xs.length) : (xs.take i ++ List.replicate (xs.length - i) (0 : Int)).length = xs.length := by
  rw [List.length_append, List.length_take, List.length_replicate]
  omega
theorem toIntS_any (v : Value) (xs : List Int) (w : World) (h : IntsAt w w.heap.size v xs) (hl : xs.length ≤ 1073741824) :
    Calls Try.prog 26 #[v] w fun e w' => RetI 3 w xs e w' := by
  obtain ⟨A, c, rfl, hc, he⟩ := form_ h
  have He := hide he
  clear h he
  go_enter Try.func26, Try.ntmps26
  go_wp2_with (at_make; refine wpList_makeV (.int .i64 0) 8 xs.length Try.underlying36 infoI rfl (by decide) (by omega) rfl _ _ rfl rfl rfl ?_; intro w1 hown1 hb1)
  have hown : OwnV 3 w1 w.heap.size (.slice (some ⟨w.heap.size, 0, none⟩) xs.length xs.length) (ints (xs.take 0 ++ List.replicate (xs.length - 0) 0)) := by simpa [ints] using hown1
  have Hown := hide hown
  have Hb1 := hide hb1
  clear hown hown1 hb1
  go_loopw [4] (fun i wr => ∃ k : Nat, k ≤ xs.length ∧ i = .int .i64 k ∧ OwnV 3 wr w.heap.size (.slice (some ⟨w.heap.size, 0, none⟩) xs.length xs.length) (ints (xs.take k ++ List.replicate (xs.length - k) 0)) ∧ Below w.heap.size w wr) (fun i _ => xs.length - (intOf i).toNat)
  case atStart => exact ⟨0, by omega, rfl, Hown.out, Hb1.out⟩
  case round =>
    obtain ⟨k, hk, rfl, hown, hb⟩ := hrel
    by_cases hlt : k < xs.length
    · obtain ⟨b, o, x, rfl, hbb, hx, hcx0⟩ := He.out k hlt
      have hcx : wr.cell? ⟨b, o + k, none⟩ = some (.int .i64 x) := (hb.cell (p := ⟨b, o + k, none⟩) hbb).trans hcx0
      have hcl := copied_len xs k hk
      have hcs := copied_set xs k x hx
      have hvv : Value.slice (some ⟨w.heap.size, 0, none⟩) xs.length xs.length = .slice (some ⟨w.heap.size, 0, none⟩) (ints (xs.take k ++ List.replicate (xs.length - k) 0)).length xs.length := by rw [ints_length, hcl]
      obtain ⟨u, hu⟩ : ∃ u, (ints (xs.take k ++ List.replicate (xs.length - k) 0))[k]? = some u := ⟨_, List.getElem?_eq_getElem (by rw [ints_length, hcl]; omega)⟩
      obtain ⟨hc1, hf1⟩ := own_cell hown hvv hu
      have hset := own_set hown hvv k (.int .i64 x)
      have es : (ints (xs.take k ++ List.replicate (xs.length - k) 0)).set k (.int .i64 x) = ints (xs.take (k + 1) ++ List.replicate (xs.length - (k + 1)) 0) := by rw [← hcs]; simp [ints, List.map_set]
      rw [es] at hset
      have Hs := hide hset
      have Hb : Hid (Below w.heap.size w (wr.setCell ⟨w.heap.size, k, none⟩ (.int .i64 x))) := hb.setCell (by exact Nat.le_refl _) _
      clear hset es hvv hu hown hb hcl hcs hx hcx0
      go_wp2
      go_roundw
      case rel => exact ⟨k + 1, by omega, by go_num, Hs.out, Hb.out⟩
      case measure => simp [intOf]; omega
    · have hk2 := hide (show k = xs.length by omega)
      have hge : xs.length ≤ k := by omega
      go_wp2
      go_ret
      refine ⟨_, rfl, ?_, hb⟩
      have := hown
      rw [take_all _ _ hge, show xs.length - k = 0 by omega, List.replicate_zero, List.append_nil] at this
      exact this

/-- The call returns a complex whose facets are its own. -/
def RetC (e0 : TypeId) (w : World) (n : Int) (xs : List Int) (e : Ending) (w' : World) : Prop := ∃ v, e = .returned (.agg #[.int .i64 n, v]) ∧ OwnV e0 w' w.heap.size v (ints xs) ∧ Below w.heap.size w w'
theorem eqComplex_any (n1 n2 : Int) (v1 v2 : Value) (xs ys : List Int) (w : World) (h1 : IntsAt w w.heap.size v1 xs) (h2 : IntsAt w w.heap.size v2 ys) (hl1 : xs.length ≤ 1073741824) (hl2 : ys.length ≤ 1073741824) :
    Calls Try.prog 31 #[.agg #[.int .i64 n1, v1], .agg #[.int .i64 n2, v2]] w fun e w' => RetB w (decide (n1 = n2) && decide (xs = ys)) e w' := by
  obtain ⟨A1, c1, rfl⟩ := reads_shape h1
  obtain ⟨A2, c2, rfl⟩ := reads_shape h2
  have H1 := hide h1
  have H2 := hide h2
  clear h1 h2
  by_cases hn : n1 = n2
  · subst hn
    have hne : (n1 != n1) = false := by simp
    go_enter Try.func31, Try.ntmps31
    go_wp2_with fail
    refine (eqIntS_any _ _ xs ys _ (ReadsV.on H1.out (X := w.heap.size) ?_ (Nat.le_refl _) (Nat.le_refl _)) (ReadsV.on H2.out (X := w.heap.size) ?_ (Nat.le_refl _) (Nat.le_refl _)) hl1 hl2).mono ?_
    · go_grown
    · go_grown
    rintro e w1 ⟨rfl, hb⟩
    have hbw : Below w.heap.size w w1 := ((below_alloc w _).alloc (by (try simp only [World.size_alloc]); omega) _).trans (hb.mono (by (try simp only [World.size_alloc]); omega))
    have Hbw := hide hbw
    clear hb hbw
    by_cases hxy : xs = ys
    · have hd : decide (xs = ys) = true := decide_eq_true hxy
      have Hd := hide hd
      clear hxy
      go_wp2
      go_ret
      exact ⟨ret_bool (by rw [Hd.out]; simp), Hbw.out⟩
    · have hd : decide (xs = ys) = false := decide_eq_false hxy
      have Hd := hide hd
      clear hxy
      go_wp2
      go_ret
      exact ⟨ret_bool (by rw [Hd.out]; simp), Hbw.out⟩
  · have hne : (n1 != n2) = true := by simpa using hn
    have Hn := hide hn
    clear hn
    go_enter Try.func31, Try.ntmps31
    go_wp2
    go_ret
    refine ⟨ret_bool ?_, ?_⟩
    · rw [decide_eq_false Hn.out]
      rfl
    · go_grown

theorem eqComplex_same (n : Int) (v1 v2 : Value) (xs : List Int) (w : World) (h1 : IntsAt w w.heap.size v1 xs) (h2 : IntsAt w w.heap.size v2 xs) (hl : xs.length ≤ 1073741824) :
    Calls Try.prog 31 #[.agg #[.int .i64 n, v1], .agg #[.int .i64 n, v2]] w fun e w' => RetB w true e w' := by
  have h := eqComplex_any n n v1 v2 xs xs w h1 h2 hl hl
  rwa [show (decide (n = n) && decide (xs = xs)) = true by simp] at h

theorem markComplex_any {B : Nat} (n : Int) (v : Value) (xs : List Int) (k : Int) (w : World) (h : OwnV 3 w B v (ints xs)) (hk0 : 0 ≤ k) (hk1 : k ≤ 1099511627776) (hl : xs.length ≤ 1073741824) :
    Calls Try.prog 32 #[.agg #[.int .i64 n, v], .int .i64 k] w fun e w' => e = .returned (.int .i64 (k + xs.length)) ∧ OwnV 3 w' B v (ints (marks k xs.length)) ∧ w.grownBy w' v.ownBlock := by
  have ha := h.alloc (.cells #[.int .i64 n, v] 42)
  obtain ⟨A, c, rfl⟩ := own_shape h
  go_enter Try.func32, Try.ntmps32
  go_wp2_with fail
  refine (markIntS_any _ xs k _ ha hk0 hk1 hl).mono ?_
  rintro e w1 ⟨rfl, ho, hg⟩
  have Ho := hide ho
  have Hg := hide (grown_trans (World.grownBy_alloc w _ _) hg)
  clear ho hg h ha
  go_wp2
  go_ret
  exact ⟨rfl, Ho.out, Hg.out⟩

theorem heldComplex_yes (m : Int) (v : Value) (n : Nat) (k : Int) (w : World) (h : IntsAt w w.heap.size v (marks k n)) (hk0 : 0 ≤ k) (hk1 : k ≤ 1099511627776) (hl : n ≤ 1073741824) :
    Calls Try.prog 33 #[.agg #[.int .i64 m, v], .int .i64 k] w fun e w' => RetN w (k + n) e w' := by
  have ha := ReadsV.alloc h (.cells #[.int .i64 m, v] 42)
  obtain ⟨A, c, rfl⟩ := reads_shape h
  go_enter Try.func33, Try.ntmps33
  go_wp2_with fail
  refine (heldIntS_yes _ n k _ ha hk0 hk1 hl).mono ?_
  rintro e w1 ⟨rfl, hb⟩
  have Hb := hide (nxt (below_alloc w _) hb)
  clear hb h ha
  go_wp2
  go_ret
  exact ⟨rfl, Hb.out⟩
end

/- Boxed complexes: parameters and locals of a struct of an int and a slice. -/
section
open Go.RowKit

/-- The block b holds x and y. -/
def AtC (w : World) (b : Nat) (x y : Value) : Prop := w.cell? ⟨b, 0, none⟩ = some x ∧ w.cell? ⟨b, 1, none⟩ = some y
theorem AtC.to {W w' : World} {b : Nat} {x y : Value} (h : AtC W b x y) (c : Below W.heap.size W w') : AtC w' b x y :=
  ⟨(c.cell (p := ⟨b, 0, none⟩) (World.block_lt_of_cell? _ _ h.1)).trans h.1, (c.cell (p := ⟨b, 1, none⟩) (World.block_lt_of_cell? _ _ h.2)).trans h.2⟩
theorem AtC.grown {W W' : World} {b : Nat} {x y : Value} {row : Option Nat} (h : AtC W b x y) (hg : W.grownBy W' row) (hne : row ≠ some b) : AtC W' b x y :=
  ⟨hg.cell h.1 (fun e => hne e.symm), hg.cell h.2 (fun e => hne e.symm)⟩
theorem AtC.lt {W : World} {b : Nat} {x y : Value} (h : AtC W b x y) : b < W.heap.size := World.block_lt_of_cell? _ _ h.1
theorem boxC (w : World) (x y : Value) (T : TypeId) : ∃ W, w.alloc (.cells #[x, y] T) = W ∧ AtC W w.heap.size x y ∧ Below w.heap.size w W ∧ W.heap.size = w.heap.size + 1 :=
  ⟨_, rfl, ⟨World.cell?_alloc_at _ _ _ _ rfl, World.cell?_alloc_at _ _ _ _ rfl⟩, below_alloc _ _, by simp⟩
/-- A local of a struct, made and stored into. -/
theorem localC (w : World) (x y x0 y0 : Value) (T : TypeId) : ∃ W, ((w.alloc (.cells #[x0, y0] T)).setCell ⟨w.heap.size, 0, none⟩ x).setCell ⟨w.heap.size, 1, none⟩ y = W ∧ AtC W w.heap.size x y ∧ Below w.heap.size w W ∧ W.heap.size = w.heap.size + 1 := by
  refine ⟨_, rfl, ⟨?_, ?_⟩, ?_, ?_⟩
  · simp [go_sem]
  · simp [go_sem]
  · go_grown
  · simp
theorem eqIntS_same (v1 v2 : Value) (xs : List Int) (w : World) (h1 : IntsAt w w.heap.size v1 xs) (h2 : IntsAt w w.heap.size v2 xs) (hl : xs.length ≤ 1073741824) :
    Calls Try.prog 28 #[v1, v2] w fun e w' => RetB w true e w' := by
  have h := eqIntS_any v1 v2 xs xs w h1 h2 hl hl
  rwa [show decide (xs = xs) = true by simp] at h
end

/- Walks: families of sets as numbers. -/
section
open Go.RowKit

/-- The order of two sets; of what is no set, false. -/
def beforeSet (a b : Int) : Bool := decide (0 ≤ a ∧ a < 64) && decide (0 ≤ b ∧ b < 64) && beforeI a b
theorem beforeSet_yes {a b : Int} (ha : 0 ≤ a ∧ a < 64) (hb : 0 ≤ b ∧ b < 64) : beforeSet a b = beforeI a b := by simp [beforeSet, ha, hb]
theorem beforeSet_no1 {a b : Int} (ha : ¬ (0 ≤ a ∧ a < 64)) : beforeSet a b = false := by unfold beforeSet; rw [decide_eq_false ha]; rfl
theorem beforeSet_no2 {a b : Int} (hb : ¬ (0 ≤ b ∧ b < 64)) : beforeSet a b = false := by unfold beforeSet; rw [decide_eq_false hb]; simp

theorem beforeSetI (a b : Int) (w : World) : Calls Try.prog 92 #[.int .i64 a, .int .i64 b] w fun e w' => e = .returned (.bool (beforeSet a b)) ∧ w = w' := by
  by_cases ha : 0 ≤ a ∧ a < 64
  · have h1 : isSetB 6 a = true := by rw [isSetB_six]; exact decide_eq_true ha
    by_cases hb : 0 ≤ b ∧ b < 64
    · have h2 : isSetB 6 b = true := by rw [isSetB_six]; exact decide_eq_true hb
      obtain ⟨x, rfl⟩ := Int.eq_ofNat_of_zero_le ha.1
      obtain ⟨y, rfl⟩ := Int.eq_ofNat_of_zero_le hb.1
      have H := hide (show beforeSet (x : Int) (y : Int) = (decide (pc x < pc y) || (decide (pc x = pc y) && decide (x < y))) by
        rw [beforeSet_yes ha hb]
        simp [beforeI])
      have sx := sizeOf_yes (s := x) (by omega)
      have sy := sizeOf_yes (s := y) (by omega)
      generalize pc x = p at H sx
      generalize pc y = q at H sy
      by_cases hpq : p = q
      · subst hpq
        have hne : ((p : Int) != (p : Int)) = false := by simp
        go_enter Try.func92, Try.ntmps92
        go_wp2_with (first | (go_at_call 86; refine (isSetI _ _ _).mono ?_; rintro e w' ⟨rfl, rfl⟩) | (go_at_call 94; refine (sizeOfI _ _).mono ?_; rintro e w' ⟨rfl, rfl⟩))
        go_ret
        exact ⟨ret_bool (by rw [H.out]; simp), rfl⟩
      · have hne : ((p : Int) != (q : Int)) = true := by simp; omega
        go_enter Try.func92, Try.ntmps92
        go_wp2_with (first | (go_at_call 86; refine (isSetI _ _ _).mono ?_; rintro e w' ⟨rfl, rfl⟩) | (go_at_call 94; refine (sizeOfI _ _).mono ?_; rintro e w' ⟨rfl, rfl⟩))
        go_ret
        exact ⟨ret_bool (by rw [H.out]; simp [hpq]), rfl⟩
    · have h2 : isSetB 6 b = false := by rw [isSetB_six]; exact decide_eq_false hb
      have H := hide (beforeSet_no2 (a := a) hb)
      clear ha hb
      go_enter Try.func92, Try.ntmps92
      go_wp2_with (go_at_call 86; refine (isSetI _ _ _).mono ?_; rintro e w' ⟨rfl, rfl⟩)
      go_ret
      exact ⟨ret_bool H.out.symm, rfl⟩
  · have h1 : isSetB 6 a = false := by rw [isSetB_six]; exact decide_eq_false ha
    have H := hide (beforeSet_no1 (b := b) ha)
    clear ha
    go_enter Try.func92, Try.ntmps92
    go_wp2_with (go_at_call 86; refine (isSetI _ _ _).mono ?_; rintro e w' ⟨rfl, rfl⟩)
    go_ret
    exact ⟨ret_bool H.out.symm, rfl⟩

theorem beforeSetS (a b : Int) (w : World) : Calls Try.prog 93 #[.int .i64 a, .int .i64 b] w fun e w' => e = .returned (.bool (beforeSet a b)) ∧ w = w' := by
  by_cases ha : 0 ≤ a ∧ a < 64
  · have h1 : inB a 0 63 = true := inB_mk ⟨ha.1, by omega⟩
    by_cases hb : 0 ≤ b ∧ b < 64
    · have h2 : inB b 0 63 = true := inB_mk ⟨hb.1, by omega⟩
      have H := hide (beforeSet_yes ha hb)
      obtain ⟨a1, a2⟩ := ha
      obtain ⟨b1, b2⟩ := hb
      go_enter Try.func93, Try.ntmps93
      go_wp2_with (first | (go_at_call 120; refine (l1InS _ _ _ _).mono ?_; rintro e w' ⟨rfl, rfl⟩) | (go_at_call 149; refine (l2BeforeS _ _ _ (by omega) (by omega)).mono ?_; rintro e w' ⟨rfl, rfl⟩))
      go_ret
      exact ⟨ret_bool H.out.symm, rfl⟩
    · have h2 : inB b 0 63 = false := inB_no (fun h => hb ⟨h.1, by omega⟩)
      have H := hide (beforeSet_no2 (a := a) hb)
      clear ha hb
      go_enter Try.func93, Try.ntmps93
      go_wp2_with (go_at_call 120; refine (l1InS _ _ _ _).mono ?_; rintro e w' ⟨rfl, rfl⟩)
      go_ret
      exact ⟨ret_bool H.out.symm, rfl⟩
  · have h1 : inB a 0 63 = false := inB_no (fun h => ha ⟨h.1, by omega⟩)
    have H := hide (beforeSet_no1 (b := b) ha)
    clear ha
    go_enter Try.func93, Try.ntmps93
    go_wp2_with (go_at_call 120; refine (l1InS _ _ _ _).mono ?_; rintro e w' ⟨rfl, rfl⟩)
    go_ret
    exact ⟨ret_bool H.out.symm, rfl⟩

theorem or_fam (P : Nat → Bool) (m : Nat) (hm : m < 64) : bits BinOp.or IntKind.u64 (fam P : Int) (IntKind.u64.wrap (2 ^ m)) = ((fam (fun s => P s || s == m) : Nat) : Int) := by
  have hp : 2 ^ m < 18446744073709551616 := Nat.pow_lt_pow_right (n := 64) (by omega) hm
  have e : ((2 : Int) ^ m) = ((2 ^ m : Nat) : Int) := by simp
  have hf := fam_lt P
  rw [← fam_add P m hm, e]
  generalize 2 ^ m = q at hp
  rw [IntWalk.u64_in _ (by omega), u64_or_nat _ _ hf hp]

/-- The call returns a family's number and a bool. -/
def RetFB (w : World) (F : Nat) (b : Bool) (e : Ending) (w' : World) : Prop := e = .returned (.tuple #[.int .u64 (F : Int), .bool b]) ∧ w = w'
theorem familyOfI (v : Value) (xs : List Int) (w : World) (h : IntsAt w w.heap.size v xs) (hl : xs.length ≤ 1073741824) :
    Calls Try.prog 143 #[v] w fun e w' => RetFB w (famRes xs) (allSets xs) e w' := by
  obtain ⟨A, c, rfl, hc, he⟩ := form_ h
  have He := hide he
  clear h he
  go_enter Try.func143, Try.ntmps143
  go_wp2
  go_loop [4, 9] (fun f i => ∃ k : Nat, k ≤ xs.length ∧ i = .int .i64 k ∧ Hid (allSets (xs.take k) = true) ∧ f = .int .u64 (famList (xs.take k) : Int)) (fun _ i => xs.length - (intOf i).toNat)
  case atStart => exact ⟨0, by omega, rfl, rfl, by
    rw [List.take_zero, famList_nil]; rfl⟩
  case round =>
    obtain ⟨k, hk, rfl, ha, rfl⟩ := hrel
    by_cases hlt : k < xs.length
    · obtain ⟨b, o, x, rfl, hb, hx, hcx⟩ := He.out k hlt
      have Hs := hide (take_snoc _ _ _ hx)
      clear hx
      by_cases hx2 : 0 ≤ x ∧ x < 64
      · have h1 : isSetB 6 x = true := by rw [isSetB_six]; exact decide_eq_true hx2
        have Ha : Hid (allSets (xs.take (k + 1)) = true) := by
          show _ = _
          rw [Hs.out, allSets_snoc, ha.out, decide_eq_true hx2]
          rfl
        obtain ⟨m, rfl⟩ := Int.eq_ofNat_of_zero_le hx2.1
        have hm : m < 64 := by omega
        have Hf := hide (or_fam (inList (xs.take k)) m hm)
        have Hf2 := hide (show fam (fun s => inList (xs.take k) s || s == m) = famList (xs.take (k + 1)) by
          unfold famList
          apply fam_congr
          intro s _
          rw [Hs.out, inList_snoc])
        clear hx2
        go_wp2_with (go_at_call 86; refine (isSetI _ _ _).mono ?_; rintro e w' ⟨rfl, rfl⟩)
        go_round
        case rel => exact ⟨k + 1, by omega, by go_num, Ha, by
          show Value.int .u64 (bits BinOp.or IntKind.u64 (fam (inList (xs.take k)) : Int) (IntKind.u64.wrap (2 ^ m))) = _
          rw [Hf.out, Hf2.out]⟩
        case measure => simp [intOf]; omega
      · have h1 : isSetB 6 x = false := by rw [isSetB_six]; exact decide_eq_false hx2
        have H := hide (allSets_take_false (xs := xs) (k := k + 1) (by rw [Hs.out, allSets_snoc, decide_eq_false hx2]; simp))
        clear hx2
        go_wp2_with (go_at_call 86; refine (isSetI _ _ _).mono ?_; rintro e w' ⟨rfl, rfl⟩)
        go_ret2
        refine ⟨?_, rfl⟩
        rw [H.out, famRes_no H.out]
        rfl
    · have Hk := hide (show xs.take k = xs from take_all _ _ (by omega))
      go_wp2
      go_ret2
      refine ⟨?_, rfl⟩
      have := ha.out
      rw [Hk.out] at this ⊢
      rw [this, famRes_yes this]
      rfl

theorem setsInI (P : Nat → Bool) (w : World) : Calls Try.prog 148 #[.int .u64 (fam P : Int)] w fun e w' => RetI 3 w (zs (listOf P)) e w' := by
  have hF := fam_lt P
  have hB : ∀ s, s < 64 → (fam P).testBit s = P s := fun s hs => by rw [fam_bit]; simp [hs]
  have HB := hide hB
  clear hB
  generalize hFF : fam P = F at hF HB
  clear hFF
  go_enter Try.func148, Try.ntmps148
  go_wp2
  go_loopw [3, 4] (fun v i wr => ∃ k : Nat, k ≤ 7 ∧ i = .int .i64 k ∧ OwnV 3 wr w.heap.size v (ints (zs (lows P k))) ∧ Below w.heap.size w wr) (fun _ i _ => 7 - (intOf i).toNat)
  case atStart => exact ⟨0, by omega, rfl, own_nil _ _, Below.refl _ _⟩
  case round =>
    obtain ⟨k, hk, rfl, hown, hb⟩ := hrel
    have hll := lows_len P k
    by_cases hlt : k < 7
    · obtain ⟨wo, rfl⟩ : ∃ wo : World, wo = wr := ⟨_, rfl⟩
      have hk6 : decide ((k : Int) ≤ 6) = true := by simp; omega
      go_wp2
      go_loopw [3, 5] (fun v i wr => ∃ s : Nat, s ≤ 64 ∧ i = .int .i64 s ∧ OwnV 3 wr w.heap.size v (ints (zs (lows P k ++ layTo P k s))) ∧ Below w.heap.size w wr) (fun _ i _ => 64 - (intOf i).toNat)
      case atStart => exact ⟨0, by omega, rfl, by simpa [layTo] using hown, hb⟩
      case round =>
        clear hown hb
        obtain ⟨s, hs, rfl, hown, hb⟩ := hrel
        have hll2 := layTo_len P k s
        by_cases hlt2 : s < 64
        · have hz := sizeOf_yes hlt2
          have hbt := HB.out s hlt2
          by_cases hps : P s = true ∧ pc s = k
          · obtain ⟨hp1, hp2⟩ := hps
            have Hl := hide (layTo_yes hp1 hp2)
            have hlen : (zs (lows P k ++ layTo P k s)).length < 17179869184 := by simp; omega
            rw [hp1] at hbt
            subst hp2
            clear hp1
            go_wp2_with (first | (go_at_call 130; refine (hasSetI F s hF hlt2 _).mono ?_; rintro e w' ⟨rfl, rfl⟩) | (go_at_call 94; refine (sizeOfI _ _).mono ?_; rintro e w' ⟨rfl, rfl⟩) | (at_builtin; refine wpList_appI hown s Try.underlying36 infoI rfl _ _ rfl rfl rfl hlen hb.size ?_; intro v' w1 hown1 hb1 _))
            go_roundw
            case rel => exact ⟨s + 1, by omega, by go_num, by rw [Hl.out, ← List.append_assoc, zs_snoc]; exact hown1, hb.trans hb1⟩
            case measure => simp [intOf]; omega
          · have Hl := hide (layTo_no hps)
            cases hp1 : P s
            · rw [hp1] at hbt
              go_wp2_with (first | (go_at_call 130; refine (hasSetI F s hF hlt2 _).mono ?_; rintro e w' ⟨rfl, rfl⟩) | (go_at_call 94; refine (sizeOfI _ _).mono ?_; rintro e w' ⟨rfl, rfl⟩))
              go_roundw
              case rel => exact ⟨s + 1, by omega, by go_num, by rw [Hl.out]; exact hown, hb⟩
              case measure => simp [intOf]; omega
            · rw [hp1] at hbt
              have hne : ((pc s : Int) == (k : Int)) = false := by
                have : ¬ pc s = k := fun e => hps ⟨hp1, e⟩
                simp
                omega
              clear hps hp1
              go_wp2_with (first | (go_at_call 130; refine (hasSetI F s hF hlt2 _).mono ?_; rintro e w' ⟨rfl, rfl⟩) | (go_at_call 94; refine (sizeOfI _ _).mono ?_; rintro e w' ⟨rfl, rfl⟩))
              go_roundw
              case rel => exact ⟨s + 1, by omega, by go_num, by rw [Hl.out]; exact hown, hb⟩
              case measure => simp [intOf]; omega
        · obtain rfl : s = 64 := by omega
          go_wp2
          go_roundw
          case rel => exact ⟨k + 1, by omega, by go_num, by rw [lows_succ, ← layTo_all]; exact hown, hb⟩
          case measure => simp [intOf]; omega
    · obtain rfl : k = 7 := by omega
      go_wp2
      go_ret
      exact ⟨_, rfl, hown, hb⟩

theorem and_pred (t s : Nat) (h0 : 0 < t) (ht : t < 64) (hs : s < 64) : bits BinOp.and IntKind.i64 ((t : Int) - 1) (s : Int) = (((t - 1) &&& s : Nat) : Int) := by
  rw [← i64_and (t - 1) s (by omega) (by omega)]
  congr 1
  omega
theorem subsetFamilyI (s : Nat) (hs : s < 64) (w : World) : Calls Try.prog 151 #[.int .i64 (s : Int)] w fun e w' => e = .returned (.int .u64 (fam (fun u => sub u s) : Int)) ∧ w = w' := by
  go_enter Try.func151, Try.ntmps151
  go_wp2
  go_loop [3, 4] (fun f i => ∃ t : Nat, t < 64 ∧ i = .int .i64 t ∧ Hid (sub t s = true) ∧ f = .int .u64 (fam (fun u => sub u s && decide (t < u)) : Int)) (fun _ i => (intOf i).toNat)
  case atStart => exact ⟨s, hs, rfl, sub_refl s, by rw [above_start hs]; rfl⟩
  case round =>
    obtain ⟨t, ht, rfl, hsub, rfl⟩ := hrel
    have Hf := hide (or_fam (fun u => sub u s && decide (t < u)) t ht)
    by_cases h0 : 0 < t
    · have Hp := hide (prev_sub hs ht hsub.out h0)
      have Hst := hide (above_step hs ht hsub.out h0)
      have hb := and_pred t s h0 ht hs
      have hlt := Hp.out.2.1
      go_wp2
      go_round
      case rel => exact ⟨(t - 1) &&& s, by omega, rfl, Hp.out.1, by rw [Hf.out, Hst.out]⟩
      case measure => simp [intOf]; omega
    · obtain rfl : t = 0 := by omega
      go_wp2
      go_ret
      exact ⟨ret_int (by have := Hf.out; rw [above_all] at this; exact this), rfl⟩
end

/- Plain laws: what OrderSets, MaximalSets, MinimalSets and SubsetsOf give. No program is named here. -/
section
/-- The family of a list's sets, in order; nothing where one is no set. -/
def orderOf (xs : List Int) : List Nat := if allSets xs then listOf (inList xs) else []
def maxSets (xs : List Int) : List Nat := if allSets xs then maxOf (inList xs) else []
def minSets (xs : List Int) : List Nat := if allSets xs then minOf (inList xs) else []
theorem orderOf_yes {xs : List Int} (h : allSets xs = true) : orderOf xs = listOf (inList xs) := by simp [orderOf, h]
theorem orderOf_no {xs : List Int} (h : allSets xs = false) : orderOf xs = [] := by simp [orderOf, h]
theorem maxSets_yes {xs : List Int} (h : allSets xs = true) : maxSets xs = maxOf (inList xs) := by simp [maxSets, h]
theorem maxSets_no {xs : List Int} (h : allSets xs = false) : maxSets xs = [] := by simp [maxSets, h]
theorem minSets_yes {xs : List Int} (h : allSets xs = true) : minSets xs = minOf (inList xs) := by simp [minSets, h]
theorem minSets_no {xs : List Int} (h : allSets xs = false) : minSets xs = [] := by simp [minSets, h]
/-- The subsets of s, in order. -/
def subsetsOf (s : Int) : List Nat := if 0 ≤ s ∧ s < 64 then listOf (fun t => sub t s.toNat) else []
theorem subsetsOf_yes {m : Nat} (h : m < 64) : subsetsOf (m : Int) = listOf (fun t => sub t m) := by simp [subsetsOf]; omega
theorem subsetsOf_no {s : Int} (h : ¬ (0 ≤ s ∧ s < 64)) : subsetsOf s = [] := by simp [subsetsOf, h]
theorem orderOf_len (xs : List Int) : (orderOf xs).length ≤ 448 := by
  unfold orderOf
  split
  · exact listOf_len _
  · simp
theorem maxSets_len (xs : List Int) : (maxSets xs).length ≤ 448 := by
  unfold maxSets
  split
  · exact maxOf_len _
  · simp
theorem minSets_len (xs : List Int) : (minSets xs).length ≤ 448 := by
  unfold minSets
  split
  · exact minOf_len _
  · simp
theorem subsetsOf_len (s : Int) : (subsetsOf s).length ≤ 448 := by
  unfold subsetsOf
  split
  · exact listOf_len _
  · simp
end
end Go.Proofs.Ytmkacjpjcfffmaa
