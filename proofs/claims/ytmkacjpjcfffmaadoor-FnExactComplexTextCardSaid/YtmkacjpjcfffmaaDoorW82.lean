/- Walks: ComplexText in the reference and in the program. -/
import Derived.Test.YtmkacjpjcfffmaaDoorW81
import Derived.Test.YtmkacjpjcfffmaaDoorW10
import Derived.Test.YtmkacjpjcfffmaaDoorMathText
import Derived.Deep.RegionLaw
namespace Go.Proofs.YtmkacjpjcfffmaaDoor
open Go.RowKit

theorem asS {P : Program} {f : Nat} {args : Array Value} {w : World} {l l' : List UInt8} (h : Calls P f args w fun e w' => RetS w l e w') (hl : l = l') : Calls P f args w fun e w' => RetS w l' e w' := by subst hl; exact h
theorem cxTxt_yes {n : Int} {xs : List Int} (h : isCx n xs = true) : cxTxt n xs = (fmtZ n ++ [58]) ++ setsTxt xs := by
  unfold cxTxt
  rw [h, fmtZ_small n (cx_n h)]
  rfl
theorem cxTxt_no {n : Int} {xs : List Int} (h : isCx n xs = false) : cxTxt n xs = [] := by
  unfold cxTxt
  rw [h]
  rfl
theorem complexTextS (n : Int) (v : Value) (xs : List Int) (w : World) (h : IntsAt w w.heap.size v xs) (hl : xs.length ≤ 1073741824) :
    Calls Tryd.prog 9 #[.agg #[.int .i64 n, v]] w fun e w' => RetS w (cxTxt n xs) e w' := by
  obtain ⟨A, c, rfl⟩ := reads_shape h
  obtain ⟨w1, hW1, at1, b1, z1⟩ := boxC w (.int .i64 n) (.slice A xs.length c) 29
  have R1 := hide (now_ h b1)
  have B1 := hide b1
  have At1 := hide at1
  obtain ⟨e0, e1⟩ := at1
  clear h b1 z1
  cases hcx : isCx n xs
  · have Hcx := hide hcx
    have HI : Hid (Calls Tryd.prog 21 #[.agg #[.int .i64 n, .slice A xs.length c]] w1 fun e w' => RetB w1 false e w') := by
      have h1 := isComplexS n _ xs w1 R1.out hl
      rw [hcx] at h1
      exact h1
    clear hcx
    go_enter Tryd.func9, Tryd.ntmps9
    go_wp2_with fail
    clear hW1
    refine HI.out.mono ?_
    rintro e w2 ⟨rfl, b2⟩
    have B2 := hide (nxt B1.out b2)
    go_wp2
    go_ret
    rw [cxTxt_no Hcx.out]
    exact ⟨rfl, B2.out⟩
  · have Hcx := hide hcx
    have HI : Hid (Calls Tryd.prog 21 #[.agg #[.int .i64 n, .slice A xs.length c]] w1 fun e w' => RetB w1 true e w') := by
      have h1 := isComplexS n _ xs w1 R1.out hl
      rw [hcx] at h1
      exact h1
    have hn := cx_n hcx
    obtain ⟨T1, hT1⟩ : ∃ T, T = fmtZ n := ⟨_, rfl⟩
    obtain ⟨S1, hS1⟩ : ∃ S, S = setsTxt xs := ⟨_, rfl⟩
    have HT1 := hide hT1
    have HS1 := hide hS1
    have hl1 : T1.length ≤ 21 := by rw [hT1]; exact fmtZ_len n (by omega) (by omega)
    have hl2 : S1.length ≤ 3136 := by rw [hS1]; exact setsTxt_len (cx_len hcx)
    clear hcx hT1 hS1
    go_enter Tryd.func9, Tryd.ntmps9
    go_wp2_with fail
    clear hW1
    refine HI.out.mono ?_
    rintro e w2 ⟨rfl, b2⟩
    have B2 := hide (nxt B1.out b2)
    have R2 := hide (now_ R1.out b2)
    have At2 := hide (At1.out.to b2)
    have hb0 : Below w2.heap.size w2 w2.drew := (Below.refl _ _).drew
    obtain ⟨x20, x21⟩ := AtC.to At2.out hb0
    have hcat1 : (⟨T1.toArray⟩ : ByteArray) ++ ⟨#[58]⟩ = ⟨(T1 ++ [58]).toArray⟩ := by
      apply ByteArray.ext
      simp
    have hcat2 : (⟨(T1 ++ [58]).toArray⟩ : ByteArray) ++ ⟨S1.toArray⟩ = ⟨((T1 ++ [58]) ++ S1).toArray⟩ := by
      apply ByteArray.ext
      simp
    have hl3 : (T1 ++ [58]).length = T1.length + 1 := by simp
    have hlA : (9223372036854775807 < T1.length + 1) = False := eq_false (by omega)
    have hlB : (9223372036854775807 < T1.length + 1 + S1.length) = False := eq_false (by omega)
    clear e0 e1 b2
    go_wp2_with fail
    go_region_law (first | (go_simp; go_at_call 6; refine (asS (formatIntS n _ (by omega)) HT1.out.symm).mono ?_; rintro e w3 ⟨rfl, b3⟩; have hb3 := nxt hb0 b3; obtain ⟨x30, x31⟩ := AtC.to At2.out hb3) | (go_simp; go_at_call 22; refine (asS (setsTextS _ xs _ (now_ R2.out hb3) hl) HS1.out.symm).mono ?_; rintro e w4 ⟨rfl, b4⟩; have hb4 := nxt hb3 b4))
    all_goals (
      go_wp2
      go_ret
      rw [cxTxt_yes Hcx.out, ← HT1.out, ← HS1.out, show (T1 ++ [58]) ++ S1 = T1 ++ 58 :: S1 by simp]
      exact ⟨rfl, B2.out.trans (hb4.mono B2.out.size)⟩)
theorem complexTextI (n : Int) (v : Value) (xs : List Int) (w : World) (h : IntsAt w w.heap.size v xs) (hl : xs.length ≤ 1073741824) (hT : Tab w) :
    Calls Tryd.prog 11 #[.agg #[.int .i64 n, v]] w fun e w' => RetS w (cxTxt n xs) e w' := by
  obtain ⟨A, c, rfl⟩ := reads_shape h
  obtain ⟨w1, hW1, at1, b1, z1⟩ := boxC w (.int .i64 n) (.slice A xs.length c) 29
  have R1 := hide (now_ h b1)
  have B1 := hide b1
  have At1 := hide at1
  have HT := hide hT
  obtain ⟨e0, e1⟩ := at1
  clear h b1 z1 hT
  cases hcx : isCx n xs
  · have Hcx := hide hcx
    have HI : Hid (Calls Tryd.prog 24 #[.agg #[.int .i64 n, .slice A xs.length c]] w1 fun e w' => RetB w1 false e w') := by
      have h1 := isComplexI n _ xs w1 R1.out hl
      rw [hcx] at h1
      exact h1
    clear hcx
    go_enter Tryd.func11, Tryd.ntmps11
    go_wp2_with fail
    clear hW1
    refine HI.out.mono ?_
    rintro e w2 ⟨rfl, b2⟩
    have B2 := hide (nxt B1.out b2)
    go_wp2
    go_ret
    rw [cxTxt_no Hcx.out]
    exact ⟨rfl, B2.out⟩
  · have Hcx := hide hcx
    have HI : Hid (Calls Tryd.prog 24 #[.agg #[.int .i64 n, .slice A xs.length c]] w1 fun e w' => RetB w1 true e w') := by
      have h1 := isComplexI n _ xs w1 R1.out hl
      rw [hcx] at h1
      exact h1
    have hn := cx_n hcx
    obtain ⟨T1, hT1⟩ : ∃ T, T = fmtZ n := ⟨_, rfl⟩
    obtain ⟨S1, hS1⟩ : ∃ S, S = setsTxt xs := ⟨_, rfl⟩
    have HT1 := hide hT1
    have HS1 := hide hS1
    have hl1 : T1.length ≤ 21 := by rw [hT1]; exact fmtZ_len n (by omega) (by omega)
    have hl2 : S1.length ≤ 3136 := by rw [hS1]; exact setsTxt_len (cx_len hcx)
    clear hcx hT1 hS1
    go_enter Tryd.func11, Tryd.ntmps11
    go_wp2_with fail
    clear hW1
    refine HI.out.mono ?_
    rintro e w2 ⟨rfl, b2⟩
    have B2 := hide (nxt B1.out b2)
    have R2 := hide (now_ R1.out b2)
    have At2 := hide (At1.out.to b2)
    have HT2 := hide (HT.out.on B2.out)
    have hb0 : Below w2.heap.size w2 w2.drew := (Below.refl _ _).drew
    obtain ⟨x20, x21⟩ := AtC.to At2.out hb0
    have hcat1 : (⟨T1.toArray⟩ : ByteArray) ++ ⟨#[58]⟩ = ⟨(T1 ++ [58]).toArray⟩ := by
      apply ByteArray.ext
      simp
    have hcat2 : (⟨(T1 ++ [58]).toArray⟩ : ByteArray) ++ ⟨S1.toArray⟩ = ⟨((T1 ++ [58]) ++ S1).toArray⟩ := by
      apply ByteArray.ext
      simp
    have hl3 : (T1 ++ [58]).length = T1.length + 1 := by simp
    have hlA : (9223372036854775807 < T1.length + 1) = False := eq_false (by omega)
    have hlB : (9223372036854775807 < T1.length + 1 + S1.length) = False := eq_false (by omega)
    clear e0 e1 b2
    go_wp2_with fail
    go_region_law (first | (go_simp; go_at_call 7; refine (asS (formatIntI n _ (by omega) (HT2.out.on hb0)) HT1.out.symm).mono ?_; rintro e w3 ⟨rfl, b3⟩; have hb3 := nxt hb0 b3; obtain ⟨x30, x31⟩ := AtC.to At2.out hb3) | (go_simp; go_at_call 25; refine (asS (setsTextI _ xs _ (now_ R2.out hb3) hl) HS1.out.symm).mono ?_; rintro e w4 ⟨rfl, b4⟩; have hb4 := nxt hb3 b4))
    all_goals (
      go_wp2
      go_ret
      rw [cxTxt_yes Hcx.out, ← HT1.out, ← HS1.out, show (T1 ++ [58]) ++ S1 = T1 ++ 58 :: S1 by simp]
      exact ⟨rfl, B2.out.trans (hb4.mono B2.out.size)⟩)
end Go.Proofs.YtmkacjpjcfffmaaDoor
