/- Plain laws: a complex's text, and that it is read as the complex again. -/
import Derived.Test.YtmkacjpjcfffmaaDoorMathCxl
import Derived.Test.YtmkacjpjcfffmaaDoorMathParse
import Derived.Test.YtmkacjpjcfffmaaDoorW51
namespace Go.Proofs.YtmkacjpjcfffmaaDoor

/-- The text of a complex, empty where it is none. -/
def cxTxt (n : Int) (xs : List Int) : List UInt8 := if isCx n xs then UInt8.ofNat (48 + n.toNat) :: 58 :: setsTxt xs else []
theorem fmtZ_small : ∀ n : Int, 1 ≤ n ∧ n ≤ 6 → fmtZ n = [UInt8.ofNat (48 + n.toNat)] := by
  intro n h
  rcases (by omega : n = 1 ∨ n = 2 ∨ n = 3 ∨ n = 4 ∨ n = 5 ∨ n = 6) with rfl | rfl | rfl | rfl | rfl | rfl <;> decide +kernel
theorem txt_facts : ((List.range 64).all fun s => parseSet (setTxt s) == (s, true) && !(setTxt s).contains 44 && !(setTxt s).isEmpty) = true := by decide +kernel
theorem txt_fact {x : Int} (h : 0 ≤ x ∧ x < 64) : parseSet (setTxtOf x) = (x.toNat, true) ∧ (44 : UInt8) ∉ setTxtOf x ∧ setTxtOf x ≠ [] := by
  obtain ⟨m, rfl⟩ := Int.eq_ofNat_of_zero_le h.1
  have hm : m < 64 := by omega
  have e := List.all_eq_true.1 txt_facts m (List.mem_range.2 hm)
  rw [Bool.and_eq_true, Bool.and_eq_true] at e
  rw [setTxtOf_yes hm, Int.toNat_natCast]
  refine ⟨by simpa using e.1.1, fun hc => ?_, fun hc => ?_⟩
  · have := e.1.2
    rw [List.contains_iff_mem.2 hc] at this
    cases this
  · have := e.2
    rw [hc] at this
    cases this
theorem join_two (x y : List UInt8) (r : List (List UInt8)) (sep : List UInt8) : Lib.join (x :: y :: r) sep = x ++ sep ++ Lib.join (y :: r) sep := by
  rw [Lib.join_cons, Lib.join_cons]
  simp [Lib.joinTail, List.append_assoc]
theorem split_sets : ∀ (x : Int) (r : List Int), (∀ y ∈ x :: r, 0 ≤ y ∧ y < 64) → splitB 44 (setsTxt (x :: r)) = (x :: r).map setTxtOf
  | x, [], h => by
    have h1 := (txt_fact (h x (by simp))).2.1
    unfold setsTxt
    show splitB 44 (Lib.join [setTxtOf x] [44]) = [setTxtOf x]
    rw [Lib.join_one]
    exact splitB_none h1
  | x, y :: r, h => by
    have h1 := (txt_fact (h x (by simp))).2.1
    have ih := split_sets y r (fun z hz => h z (by simp at hz ⊢; exact .inr hz))
    unfold setsTxt at *
    show splitB 44 (Lib.join (setTxtOf x :: setTxtOf y :: r.map setTxtOf) [44]) = setTxtOf x :: (y :: r).map setTxtOf
    rw [join_two, List.append_assoc]
    show splitB 44 (setTxtOf x ++ 44 :: Lib.join ((y :: r).map setTxtOf) [44]) = _
    rw [splitB_cons h1, ih]
theorem sets_ne {x : Int} {r : List Int} (h : 0 ≤ x ∧ x < 64) : (setsTxt (x :: r)).isEmpty = false := by
  have h1 := (txt_fact h).2.2
  unfold setsTxt
  rw [List.map_cons, Lib.join_cons]
  cases hc : setTxtOf x with
  | nil => exact absurd hc h1
  | cons a l => rfl
theorem sets_back {xs : List Int} (h : ∀ y ∈ xs, 0 ≤ y ∧ y < 64) : setsOk (setsTxt xs) = true ∧ setsXs (setsTxt xs) = xs := by
  cases xs with
  | nil => exact ⟨rfl, rfl⟩
  | cons x r =>
    have he := sets_ne (r := r) (h x (by simp))
    have hs := split_sets x r h
    constructor
    · unfold setsOk
      rw [he, hs, Bool.false_or, List.all_map]
      apply List.all_eq_true.2
      intro y hy
      show (parseSet (setTxtOf y)).2 = true
      rw [(txt_fact (h y hy)).1]
    · unfold setsXs
      rw [he, hs, if_neg (by simp), List.map_map]
      conv => rhs; rw [← List.map_id (x :: r)]
      apply List.map_congr_left
      intro y hy
      show (((parseSet (setTxtOf y)).1 : Nat) : Int) = y
      have hy2 := h y hy
      rw [(txt_fact hy2).1]
      show ((y.toNat : Nat) : Int) = y
      omega
theorem head_fact {n : Int} (h : 1 ≤ n ∧ n ≤ 6) (r : List UInt8) : headB (UInt8.ofNat (48 + n.toNat) :: 58 :: r) = true ∧ headN (UInt8.ofNat (48 + n.toNat) :: 58 :: r) = n := by
  rcases (by omega : n = 1 ∨ n = 2 ∨ n = 3 ∨ n = 4 ∨ n = 5 ∨ n = 6) with rfl | rfl | rfl | rfl | rfl | rfl <;> exact ⟨rfl, rfl⟩
/-- A complex's text is read as the complex. -/
theorem pcx_txt {n : Int} {xs : List Int} (h : isCx n xs = true) : pcxOk (cxTxt n xs) = true ∧ pcxN (cxTxt n xs) = n ∧ pcxXs (cxTxt n xs) = xs := by
  obtain ⟨h1, h2⟩ := head_fact (cx_n h) (setsTxt xs)
  obtain ⟨h3, h4⟩ := sets_back (isCx_sets h)
  have e : cxTxt n xs = UInt8.ofNat (48 + n.toNat) :: 58 :: setsTxt xs := by unfold cxTxt; rw [h]; rfl
  have hd : (UInt8.ofNat (48 + n.toNat) :: 58 :: setsTxt xs).drop 2 = setsTxt xs := rfl
  have ho : pcxOk (cxTxt n xs) = true := by
    unfold pcxOk
    rw [e, hd, h1, h2, h3, h4, h]
    rfl
  refine ⟨ho, ?_, ?_⟩
  · unfold pcxN
    rw [ho, e]
    exact h2
  · unfold pcxXs
    rw [ho, e, hd]
    exact h4
theorem pcx_no {n : Int} {xs : List Int} (h : isCx n xs = false) : pcxOk (cxTxt n xs) = false := by
  unfold cxTxt
  rw [h]
  rfl
theorem pcx_txt_ok (n : Int) (xs : List Int) : pcxOk (cxTxt n xs) = isCx n xs := by
  cases h : isCx n xs
  · exact pcx_no h
  · exact (pcx_txt h).1
theorem setsTxt_len {xs : List Int} {m : Nat} (h : xs.length ≤ m) : (setsTxt xs).length ≤ 7 * m := by
  have h1 := lens_txts xs
  have key : ∀ ls : List (List UInt8), (Lib.join ls [44]).length ≤ Lib.lens ls + ls.length := by
    intro ls
    induction ls with
    | nil => simp [Lib.join, Lib.lens]
    | cons a l ih =>
      cases l with
      | nil => rw [Lib.join_one]; simp [Lib.lens]
      | cons b r =>
        rw [join_two]
        have e : Lib.lens (a :: b :: r) = a.length + Lib.lens (b :: r) := by simp [Lib.lens]
        rw [e, List.length_append, List.length_append, List.length_cons]
        simp only [List.length_cons, List.length_nil] at ih ⊢
        omega
  have h2 := key (xs.map setTxtOf)
  rw [List.length_map] at h2
  unfold setsTxt
  omega
theorem cxTxt_len (n : Int) (xs : List Int) : (cxTxt n xs).length ≤ 4000 := by
  unfold cxTxt
  split
  · rename_i h
    have := setsTxt_len (cx_len h)
    simp only [List.length_cons]
    omega
  · simp
/-- Made again from its faces. -/
theorem again {n : Int} {xs : List Int} (h : isCx n xs = true) : maxOf (inList (zs (facesOf n xs))) = maxOf (faceP xs) ∧ zs (maxOf (faceP xs)) = xs ∧ (facesOf n xs).length ≤ 64 ∧ ∀ s ∈ facesOf n xs, isSetB n (s : Int) = true := by
  rw [facesOf_yes h]
  refine ⟨?_, cx_max h, listOf_64 _, fun s hs => faceP_set h (mem_listOf.1 hs).2⟩
  apply maxOf_congr
  intro s hs
  rw [in_zs, Bool.eq_iff_iff, List.contains_iff_mem, mem_listOf]
  exact ⟨fun k => k.2, fun k => ⟨hs, k⟩⟩
end Go.Proofs.YtmkacjpjcfffmaaDoor
