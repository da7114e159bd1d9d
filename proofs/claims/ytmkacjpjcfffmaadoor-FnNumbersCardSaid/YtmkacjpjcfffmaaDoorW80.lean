/- Walks: the draws of numbers: l1Whole, DrawFormatInt, DrawParseNumber. -/
import Derived.Test.YtmkacjpjcfffmaaDoorW61
import Derived.Test.YtmkacjpjcfffmaaDoorW32
import Derived.Test.YtmkacjpjcfffmaaDoorMathItoa
namespace Go.Proofs.YtmkacjpjcfffmaaDoor
open Go.RowKit

def I64 (x : Int) : Prop := -9223372036854775808 ≤ x ∧ x ≤ 9223372036854775807
theorem l1WholeS (p : Nat) (v : Value) (L : List UInt8) (W : World) (h : CurAt W p v L) (hL : L.length ≤ 1073741824) :
    Calls Tryd.prog 27 #[.pointer (some ⟨p, 0, none⟩)] W fun e W' => ∃ x : Int, I64 x ∧ e = .returned (.int .i64 x) ∧ CurAt W' p v L ∧ W.grownBy W' (some p) := by
  have H := hide h
  clear h
  go_enter Tryd.func27, Tryd.ntmps27
  go_wp2_with fail
  refine (l1BelowS p v L _ W H.out hL (by omega)).mono ?_
  rintro e w1 ⟨r, hr, _, rfl, c1, g1⟩
  have hr3 := hr (by omega)
  have C1 := hide c1
  have G1 := hide g1
  clear c1 g1 hr
  by_cases r0 : r = 0
  · subst r0
    go_wp2_with fail
    refine (pickLitIntS p v L [0, 1, -1, 9, 10, 999999, 1000000, 999999999999, 1000000000000, -999999999999, 9223372036854775807, -9223372036854775808] _ w1 C1.out hL (by decide) (by decide)).mono ?_
    rintro e w2 ⟨x, hx, rfl, c2, g2⟩
    have hx' : I64 x := by
      unfold I64
      simp only [List.mem_cons, List.not_mem_nil, or_false] at hx
      omega
    have C2 := hide c2
    have G2 := hide (grown_trans G1.out g2)
    clear c2 g2 hx
    go_wp2
    go_ret
    exact ⟨x, hx', rfl, C2.out, G2.out⟩
  · have hr0 : ((r : Int) == 0) = false := by rw [beq_eq_false_iff_ne]; omega
    by_cases r1 : r = 1
    · subst r1
      go_wp2_with fail
      refine (l1BelowS p v L _ w1 C1.out hL (by omega)).mono ?_
      rintro e w2 ⟨q, hq, _, rfl, c2, g2⟩
      have hq' := hq (by omega)
      have C2 := hide c2
      have G2 := hide (grown_trans G1.out g2)
      clear c2 g2 hq
      go_wp2
      go_ret
      exact ⟨_, ⟨by omega, by omega⟩, rfl, C2.out, G2.out⟩
    · have hr1 : ((r : Int) == 1) = false := by rw [beq_eq_false_iff_ne]; omega
      go_wp2_with fail
      refine (l1BelowS p v L _ w1 C1.out hL (by omega)).mono ?_
      rintro e w2 ⟨q, hq, _, rfl, c2, g2⟩
      have hq' := hq (by omega)
      have C2 := hide c2
      have G2 := hide (grown_trans G1.out g2)
      clear c2 g2 hq
      go_wp2
      go_ret
      exact ⟨_, ⟨by omega, by omega⟩, rfl, C2.out, G2.out⟩
theorem drawFormatIntS (v : Value) (L : List UInt8) (w : World) (h : BytesAt w w.heap.size v L) (hL : L.length ≤ 1073741824) :
    Calls Tryd.prog 14 #[v] w fun e w' => ∃ x : Int, I64 x ∧ e = .returned (.int .i64 x) ∧ Below w.heap.size w w' := by
  have H := hide h
  clear h
  go_enter Tryd.func14, Tryd.ntmps14
  go_wp2_with fail
  refine (l1NewS v L w H.out hL).mono ?_
  rintro e w1 ⟨p, rfl, hp, c1, b1⟩
  have B1 := hide b1
  have C1 := hide c1
  clear b1 c1
  go_wp2_with fail
  refine (l1WholeS p v L w1 C1.out hL).mono ?_
  rintro e w2 ⟨x, hx, rfl, c2, g2⟩
  have B2 := hide (cur_below B1.out B1.out.size g2 hp)
  clear c2 g2
  go_wp2
  go_ret
  exact ⟨x, hx, rfl, B2.out⟩
theorem drawParseNumberS (v : Value) (L : List UInt8) (w : World) (h : BytesAt w w.heap.size v L) (hL : L.length ≤ 1073741824) :
    Calls Tryd.prog 16 #[v] w fun e w' => ∃ s : List UInt8, s.length ≤ 21 ∧ e = .returned (.string ⟨s.toArray⟩) ∧ Below w.heap.size w w' := by
  have H := hide h
  clear h
  go_enter Tryd.func16, Tryd.ntmps16
  go_wp2_with fail
  refine (l1NewS v L w H.out hL).mono ?_
  rintro e w1 ⟨p, rfl, hp, c1, b1⟩
  have B1 := hide b1
  have C1 := hide c1
  clear b1 c1
  go_wp2_with fail
  refine (l1OnceS p v L _ w1 C1.out hL (by omega)).mono ?_
  rintro e w2 ⟨b, rfl, c2, g2⟩
  have B2 := hide (cur_below B1.out B1.out.size g2 hp)
  have C2 := hide c2
  clear c2 g2
  cases b
  · go_wp2_with fail
    refine (pickLitS p v L [[], [48, 48], [48, 49], [45, 49], [43, 49], [120], [57, 57, 57, 57, 57, 57], [49, 48, 48, 48, 48, 48, 48], [45, 48], [45], [32, 49], [49, 32]] _ w2 C2.out hL (by decide) (by decide)).mono ?_
    rintro e w3 ⟨s, hs, rfl, c3, g3⟩
    have hs7 : s.length ≤ 21 := by
      simp only [List.mem_cons, List.not_mem_nil, or_false] at hs
      rcases hs with rfl | rfl | rfl | rfl | rfl | rfl | rfl | rfl | rfl | rfl | rfl | rfl <;> decide
    have B3 := hide (cur_below B2.out B2.out.size g3 hp)
    clear c3 g3 hs
    go_wp2
    go_ret
    exact ⟨s, hs7, rfl, B3.out⟩
  · go_wp2_with fail
    refine (l1WholeS p v L w2 C2.out hL).mono ?_
    rintro e w3 ⟨x, hx, rfl, c3, g3⟩
    have B3 := hide (cur_below B2.out B2.out.size g3 hp)
    have hlen := fmtZ_len x hx.1 hx.2
    clear c3 g3
    go_wp2_with fail
    refine (formatIntS x w3 hx).mono ?_
    rintro e w4 ⟨rfl, b4⟩
    have B4 := hide (nxt B3.out b4)
    clear b4
    go_wp2
    go_ret
    exact ⟨fmtZ x, hlen, rfl, B4.out⟩
end Go.Proofs.YtmkacjpjcfffmaaDoor
