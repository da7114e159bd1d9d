/- Texts of one kind, laid together (7 of them). -/
import Derived.Test.YtmkacjpjcfffmabGreatDoorShelf
import Derived.Deep.RegionLaw
import Derived.Test.YtmkacjpjcfffmabGreatDoorP1
import Derived.Test.YtmkacjpjcfffmabGreatDoorP4
import Derived.Test.YtmkacjpjcfffmabGreatDoorP5
import Derived.Test.YtmkacjpjcfffmabGreatDoorP6
import Derived.Test.YtmkacjpjcfffmabGreatDoorP7
import Derived.Test.YtmkacjpjcfffmabGreatDoorP8
import Derived.Test.YtmkacjpjcfffmabGreatDoorP10
namespace Go.Proofs.YtmkacjpjcfffmabGreatDoor
/- Walks: FormatInt in the program (by the library's contract: it reads the table of the powers of ten). -/
section
open Go.RowKit

theorem formatIntI (n : Int) (w : World) (hk : -9223372036854775808 ≤ n ∧ n ≤ 9223372036854775807) (hT : Tab w) : Calls Tryz.prog 63 #[.int .i64 n] w fun e w' => RetS w (fmtZ n) e w' := by
  have HT := hide hT
  clear hT
  go_enter Tryz.func63, Tryz.ntmps63
  go_wp2_with fail
  refine (Tryz.strconv_Itoa n hk.1 hk.2 w HT.out).mono ?_
  rintro e w' ⟨rfl, k, os, rfl⟩
  rw [itoa_fmtZ]
  have B := hide (Lib.below_grow w.heap.size w (Nat.le_refl _) k os)
  generalize Go.Sort.grow (w.drewN k) os = w1 at *
  go_wp2
  go_ret
  exact ⟨rfl, B.out⟩
end

/- Plain laws: a complex is the row of the greatest of its faces; rows of sets in order. No program is named here. -/
section
def key (s : Nat) : Nat := pc s * 64 + s
def Ord (l : List Nat) : Prop := l.Pairwise fun a b => key a < key b
theorem ord_ext : ∀ {l r : List Nat}, Ord l → Ord r → (∀ s, s ∈ l ↔ s ∈ r) → l = r
  | [], [], _, _, _ => rfl
  | [], b :: r, _, _, h => by have := (h b).2 (by simp); simp at this
  | a :: l, [], _, _, h => by have := (h a).1 (by simp); simp at this
  | a :: l, b :: r, h1, h2, h => by
    have h1' := List.pairwise_cons.1 h1
    have h2' := List.pairwise_cons.1 h2
    have hab : a = b := by
      rcases List.mem_cons.1 ((h a).1 (by simp)) with e | ha
      · exact e
      · rcases List.mem_cons.1 ((h b).2 (by simp)) with e | hb
        · exact e.symm
        · have := h2'.1 a ha
          have := h1'.1 b hb
          omega
    subst hab
    congr 1
    refine ord_ext h1'.2 h2'.2 fun s => ⟨fun hs => ?_, fun hs => ?_⟩
    · rcases List.mem_cons.1 ((h s).1 (by simp [hs])) with e | hs'
      · subst e
        have := h1'.1 s hs
        omega
      · exact hs'
    · rcases List.mem_cons.1 ((h s).2 (by simp [hs])) with e | hs'
      · subst e
        have := h2'.1 s hs
        omega
      · exact hs'
def ordB : List Nat → Bool
  | [] => true
  | a :: l => (l.all fun b => decide (key a < key b)) && ordB l
theorem ordB_ord : ∀ {l : List Nat}, ordB l = true → Ord l
  | [], _ => List.Pairwise.nil
  | a :: l, h => by
    unfold ordB at h
    rw [Bool.and_eq_true] at h
    exact List.pairwise_cons.2 ⟨fun b hb => of_decide_eq_true (List.all_eq_true.1 h.1 b hb), ordB_ord h.2⟩
def allF : List Nat := listOf fun _ => true
theorem allF_ord : Ord allF := ordB_ord (by decide +kernel)
theorem allF_len : allF.length = 64 := by decide +kernel
theorem listOf_all (P : Nat → Bool) : listOf P = allF.filter P := by
  unfold allF
  rw [listOf_filter]
  apply listOf_congr
  intro s _
  simp
theorem listOf_ord (P : Nat → Bool) : Ord (listOf P) := by
  rw [listOf_all]
  exact allF_ord.filter P
theorem listOf_64 (P : Nat → Bool) : (listOf P).length ≤ 64 := by
  rw [listOf_all, ← allF_len]
  exact List.length_filter_le _ _
/-- Faces of two families: those of either and those of both are as many as the two have. -/
theorem filter_two (P Q : Nat → Bool) : ∀ l : List Nat, (l.filter fun s => P s || Q s).length + (l.filter fun s => P s && Q s).length = (l.filter P).length + (l.filter Q).length
  | [] => rfl
  | a :: l => by
    have ih := filter_two P Q l
    cases hp : P a <;> cases hq : Q a <;> simp [hp, hq] <;> omega
theorem listOf_two (P Q : Nat → Bool) : (listOf fun s => P s || Q s).length + (listOf fun s => P s && Q s).length = (listOf P).length + (listOf Q).length := by
  rw [listOf_all, listOf_all, listOf_all P, listOf_all Q]
  exact filter_two P Q allF

theorem mem_maxOf {P : Nat → Bool} {s : Nat} : s ∈ maxOf P ↔ s < 64 ∧ P s = true ∧ ∀ t, t < 64 → P t = true → sub s t = true → t = s := by
  rw [maxOf_eq, mem_listOf, Bool.and_eq_true, keepMax_iff]
theorem maxOf_ord (P : Nat → Bool) : Ord (maxOf P) := by
  rw [maxOf_eq]
  exact listOf_ord _
theorem maxOf_64 (P : Nat → Bool) : (maxOf P).length ≤ 64 := by
  rw [maxOf_eq]
  exact listOf_64 _
/-- Each set of a family lies in a greatest one. -/
theorem under_max {P : Nat → Bool} : ∀ (d s : Nat), s < 64 → P s = true → 6 - pc s ≤ d → ∃ t, t ∈ maxOf P ∧ sub s t = true
  | d, s, hs, hp, hd => by
    by_cases hm : ∀ t, t < 64 → P t = true → sub s t = true → t = s
    · exact ⟨s, mem_maxOf.2 ⟨hs, hp, hm⟩, sub_self s⟩
    · obtain ⟨t, ht, hpt, hst, hne⟩ : ∃ t, t < 64 ∧ P t = true ∧ sub s t = true ∧ t ≠ s := by
        refine Classical.byContradiction fun hno => hm fun t ht hpt hst => ?_
        exact Classical.byContradiction fun hne => hno ⟨t, ht, hpt, hst, hne⟩
      have h1 := sub_pc hs ht hst hne
      have h2 := pc_le6 t ht
      cases d with
      | zero => omega
      | succ d =>
        obtain ⟨u, hu, htu⟩ := under_max d t ht hpt (by omega)
        exact ⟨u, hu, sub_trans2 hst htu⟩
def Down (P : Nat → Bool) : Prop := ∀ s t, s < 64 → t < 64 → sub s t = true → P t = true → P s = true
theorem faceP_max {P : Nat → Bool} (hd : Down P) {s : Nat} (hs : s < 64) : faceP (zs (maxOf P)) s = P s := by
  rw [faceP_zs, Bool.eq_iff_iff, List.any_eq_true]
  constructor
  · rintro ⟨t, ht, hst⟩
    obtain ⟨h1, h2, _⟩ := mem_maxOf.1 ht
    exact hd s t hs h1 hst h2
  · intro hp
    obtain ⟨t, ht, hst⟩ := under_max 6 s hs hp (by omega)
    exact ⟨t, ht, hst⟩
theorem faceP_Down (xs : List Int) : Down (faceP xs) := fun _ _ _ _ h k => faceP_down h k

theorem cx_keys {n : Int} {xs : List Int} (h : isCx n xs = true) : ∀ d k, k + 1 + d < xs.length → key (xs.getD k 0).toNat < key (xs.getD (k + 1 + d) 0).toNat := by
  have step : ∀ k, k + 1 < xs.length → key (xs.getD k 0).toNat < key (xs.getD (k + 1) 0).toNat := by
    intro k hk
    have h1 := (isCx_inv h).2.1 (k + 1) hk
    unfold cxFirst at h1
    rw [Bool.and_eq_true] at h1
    have h2 := h1.2
    rw [show (k + 1 == 0) = false by simp, Bool.false_or, show k + 1 - 1 = k by omega] at h2
    unfold beforeI at h2
    simp only [Bool.or_eq_true, Bool.and_eq_true, decide_eq_true_eq] at h2
    have ha := cx_at h (show k < xs.length by omega)
    have hb := cx_at h hk
    unfold key
    rcases h2 with h2 | ⟨h3, h4⟩ <;> omega
  intro d
  induction d with
  | zero => exact step
  | succ d ih =>
    intro k hk
    have h1 := ih k (by omega)
    have h2 := step (k + 1 + d) (by omega)
    have e : k + 1 + (d + 1) = k + 1 + d + 1 := by omega
    rw [e]
    omega
theorem cx_zs {n : Int} {xs : List Int} (h : isCx n xs = true) : xs = zs (xs.map Int.toNat) := by
  unfold zs
  rw [List.map_map]
  conv => lhs; rw [← List.map_id xs]
  apply List.map_congr_left
  intro x hx
  have := isCx_sets h x hx
  show x = ((x.toNat : Nat) : Int)
  omega
theorem cx_ord {n : Int} {xs : List Int} (h : isCx n xs = true) : Ord (xs.map Int.toNat) := by
  unfold Ord
  rw [List.pairwise_iff_getElem]
  intro i j hi hj hij
  rw [List.length_map] at hi hj
  have := cx_keys h (j - (i + 1)) i (by omega)
  rw [show i + 1 + (j - (i + 1)) = j by omega] at this
  have ei : xs.getD i 0 = xs[i] := getD_of (List.getElem?_eq_getElem hi)
  have ej : xs.getD j 0 = xs[j] := getD_of (List.getElem?_eq_getElem hj)
  rw [ei, ej] at this
  simpa using this
theorem ord_lt {l : List Nat} (h : Ord l) {i j : Nat} {a b : Nat} (ha : l[i]? = some a) (hb : l[j]? = some b) (hij : i < j) : key a < key b := by
  obtain ⟨hi, rfl⟩ := List.getElem?_eq_some_iff.1 ha
  obtain ⟨hj, rfl⟩ := List.getElem?_eq_some_iff.1 hb
  exact List.pairwise_iff_getElem.1 h i j hi hj hij
/-- No facet lies in another one. -/
theorem cx_anti {n : Int} {xs : List Int} (h : isCx n xs = true) {a b : Nat} (ha : a ∈ xs.map Int.toNat) (hb : b ∈ xs.map Int.toNat) (hs : sub a b = true) : a = b := by
  obtain ⟨i, hi, he⟩ := List.mem_iff_getElem.1 ha
  obtain ⟨j, hj, hf⟩ := List.mem_iff_getElem.1 hb
  have ha2 : (xs.map Int.toNat)[i]? = some a := List.getElem?_eq_some_iff.2 ⟨hi, he⟩
  have hb2 : (xs.map Int.toNat)[j]? = some b := List.getElem?_eq_some_iff.2 ⟨hj, hf⟩
  rw [List.length_map] at hi hj
  have ha64 : a < 64 := by
    obtain ⟨x, hx, rfl⟩ := List.mem_map.1 ha
    have := isCx_sets h x hx
    omega
  have hb64 : b < 64 := by
    obtain ⟨x, hx, rfl⟩ := List.mem_map.1 hb
    have := isCx_sets h x hx
    omega
  rcases Nat.lt_trichotomy i j with hlt | rfl | hgt
  · have h1 := (isCx_inv h).2.2 j hj
    unfold cxNo at h1
    have h2 := List.all_eq_true.1 h1 xs[i] (by
      have : (xs.take j)[i]? = some xs[i] := by rw [List.getElem?_take, if_pos hlt, List.getElem?_eq_getElem hi]
      exact List.mem_of_getElem? this)
    have ej : xs.getD j 0 = xs[j] := getD_of (List.getElem?_eq_getElem hj)
    rw [ej] at h2
    rw [List.getElem_map] at he hf
    rw [he, hf, hs] at h2
    cases h2
  · rw [ha2] at hb2
    exact Option.some.inj hb2
  · have h3 := ord_lt (cx_ord h) hb2 ha2 hgt
    have h4 := sub_le hs
    have h5 := sub_pcle ha64 hb64 hs
    unfold key at h3
    omega
/-- THE KEY: a complex's row is that of the greatest of its faces. -/
theorem cx_max {n : Int} {xs : List Int} (h : isCx n xs = true) : zs (maxOf (faceP xs)) = xs := by
  have e := cx_zs h
  have hm : maxOf (faceP xs) = xs.map Int.toNat := by
    apply ord_ext (maxOf_ord _) (cx_ord h)
    intro s
    rw [mem_maxOf]
    constructor
    · rintro ⟨hs, hp, hmax⟩
      obtain ⟨x, hx, hsx⟩ := List.any_eq_true.1 hp
      have hx64 := isCx_sets h x hx
      have := hmax x.toNat (by omega) (List.any_eq_true.2 ⟨x, hx, sub_self _⟩) hsx
      exact List.mem_map.2 ⟨x, hx, this⟩
    · intro hs
      obtain ⟨x, hx, rfl⟩ := List.mem_map.1 hs
      have hx64 := isCx_sets h x hx
      refine ⟨by omega, List.any_eq_true.2 ⟨x, hx, sub_self _⟩, fun t ht hpt hst => ?_⟩
      obtain ⟨y, hy, hty⟩ := List.any_eq_true.1 hpt
      have h1 := cx_anti h hs (List.mem_map.2 ⟨y, hy, rfl⟩) (sub_trans2 hst hty)
      rw [← h1] at hty
      exact (sub_anti hst hty).symm
  rw [hm]
  exact e.symm
/-- A row of greatest sets is a complex. -/
theorem max_cx {n : Int} {P : Nat → Bool} (hn : 1 ≤ n ∧ n ≤ 6) (hP : ∀ s, s < 64 → P s = true → isSetB n (s : Int) = true) : isCx n (zs (maxOf P)) = true := by
  have hget : ∀ k, k < (zs (maxOf P)).length → ∃ s, (maxOf P)[k]? = some s ∧ (zs (maxOf P)).getD k 0 = (s : Int) := by
    intro k hk
    have hk2 : k < (maxOf P).length := by simpa [zs] using hk
    refine ⟨(maxOf P)[k], List.getElem?_eq_getElem hk2, ?_⟩
    apply getD_of
    simp [zs, hk2]
  refine isCx_mk hn (fun k hk => ?_) (fun k hk => ?_)
  · obtain ⟨s, hs, he⟩ := hget k hk
    unfold cxFirst
    obtain ⟨h1, h2, _⟩ := mem_maxOf.1 (List.mem_of_getElem? hs)
    rw [he, hP s h1 h2, Bool.true_and]
    by_cases h0 : k = 0
    · simp [h0]
    · obtain ⟨t, ht, hf⟩ := hget (k - 1) (by omega)
      obtain ⟨h3, h4, _⟩ := mem_maxOf.1 (List.mem_of_getElem? ht)
      have h5 := ord_lt (maxOf_ord P) ht hs (by omega)
      rw [hf]
      unfold key at h5
      have : beforeI (t : Int) (s : Int) = true := by
        unfold beforeI
        simp only [Int.toNat_natCast, Bool.or_eq_true, Bool.and_eq_true, decide_eq_true_eq]
        rcases Nat.lt_or_ge (pc t) (pc s) with h | h
        · exact .inl h
        · exact .inr ⟨by omega, by omega⟩
      rw [this, Bool.or_true]
  · obtain ⟨s, hs, he⟩ := hget k hk
    unfold cxNo
    rw [he]
    apply List.all_eq_true.2
    intro a ha
    obtain ⟨i, hi, hie⟩ := List.mem_iff_getElem.1 ha
    have hi2 : i < k := by rw [List.length_take] at hi; omega
    obtain ⟨t, ht, hf⟩ := hget i (by omega)
    have e2 : a = (t : Int) := by
      rw [← hf, ← hie, List.getElem_take]
      exact (getD_of (List.getElem?_eq_getElem (by omega))).symm
    subst e2
    obtain ⟨h1, h2, h3⟩ := mem_maxOf.1 (List.mem_of_getElem? ht)
    obtain ⟨h4, h5, _⟩ := mem_maxOf.1 (List.mem_of_getElem? hs)
    rw [Int.toNat_natCast, Int.toNat_natCast]
    cases hc : sub t s with
    | false => rfl
    | true =>
      have := h3 s h4 h5 hc
      subst this
      have := ord_lt (maxOf_ord P) ht hs hi2
      omega
theorem max_faces {n : Int} {P : Nat → Bool} (hn : 1 ≤ n ∧ n ≤ 6) (hP : ∀ s, s < 64 → P s = true → isSetB n (s : Int) = true) (hd : Down P) : facesOf n (zs (maxOf P)) = listOf P := by
  rw [facesOf_yes (max_cx hn hP)]
  exact listOf_congr fun s hs => faceP_max hd hs
theorem cx_n {n : Int} {xs : List Int} (h : isCx n xs = true) : 1 ≤ n ∧ n ≤ 6 := (isCx_inv h).1
end

/- Plain laws: a complex's text, and that it is read as the complex again. -/
section
/-- The text of a complex, empty where it is none. -/
def cxTxt (n : Int) (xs : List Int) : List UInt8 := if isCx n xs then UInt8.ofNat (48 + n.toNat) :: 58 :: setsTxt xs else []
theorem fmtZ_small : ∀ n : Int, 1 ≤ n ∧ n ≤ 6 → fmtZ n = [UInt8.ofNat (48 + n.toNat)] := by
  intro n h
  rcases (by omega : n = 1 ∨ n = 2 ∨ n = 3 ∨ n = 4 ∨ n = 5 ∨ n = 6) with rfl | rfl | rfl | rfl | rfl | rfl <;> decide +kernel
theorem txt_facts : ((List.range 64).all fun s => parseSet (setTxt s) == (s, true) && !(setTxt s).contains 44 && !(setTxt s).isEmpty) = true := by decide +kernel
theorem txt_fact {x : Int} (h : 0 ≤ x ∧ x < 64) : parseSet (setTxtOf x) = (x.toNat, true) ∧ (44 : UInt8) ∉ setTxtOf x ∧ setTxtOf x ≠ [] := by
  obtain ⟨m, rfl⟩ := Int.eq_ofNat_of_zero_le h.1
  have hm : m < 64 := by omega
  have e := List.all_eq_true.1 txt_facts m (List.mem_range.2 hm)
  rw [Bool.and_eq_true, Bool.and_eq_true] at e
  rw [setTxtOf_yes hm, Int.toNat_natCast]
  refine ⟨by simpa using e.1.1, fun hc => ?_, fun hc => ?_⟩
  · have := e.1.2
    rw [List.contains_iff_mem.2 hc] at this
    cases this
  · have := e.2
    rw [hc] at this
    cases this
theorem join_two (x y : List UInt8) (r : List (List UInt8)) (sep : List UInt8) : Lib.join (x :: y :: r) sep = x ++ sep ++ Lib.join (y :: r) sep := by
  rw [Lib.join_cons, Lib.join_cons]
  simp [Lib.joinTail, List.append_assoc]
theorem split_sets : ∀ (x : Int) (r : List Int), (∀ y ∈ x :: r, 0 ≤ y ∧ y < 64) → splitB 44 (setsTxt (x :: r)) = (x :: r).map setTxtOf
  | x, [], h => by
    have h1 := (txt_fact (h x (by simp))).2.1
    unfold setsTxt
    show splitB 44 (Lib.join [setTxtOf x] [44]) = [setTxtOf x]
    rw [Lib.join_one]
    exact splitB_none h1
  | x, y :: r, h => by
    have h1 := (txt_fact (h x (by simp))).2.1
    have ih := split_sets y r (fun z hz => h z (by simp at hz ⊢; exact .inr hz))
    unfold setsTxt at *
    show splitB 44 (Lib.join (setTxtOf x :: setTxtOf y :: r.map setTxtOf) [44]) = setTxtOf x :: (y :: r).map setTxtOf
    rw [join_two, List.append_assoc]
    show splitB 44 (setTxtOf x ++ 44 :: Lib.join ((y :: r).map setTxtOf) [44]) = _
    rw [splitB_cons h1, ih]
theorem sets_ne {x : Int} {r : List Int} (h : 0 ≤ x ∧ x < 64) : (setsTxt (x :: r)).isEmpty = false := by
  have h1 := (txt_fact h).2.2
  unfold setsTxt
  rw [List.map_cons, Lib.join_cons]
  cases hc : setTxtOf x with
  | nil => exact absurd hc h1
  | cons a l => rfl
theorem sets_back {xs : List Int} (h : ∀ y ∈ xs, 0 ≤ y ∧ y < 64) : setsOk (setsTxt xs) = true ∧ setsXs (setsTxt xs) = xs := by
  cases xs with
  | nil => exact ⟨rfl, rfl⟩
  | cons x r =>
    have he := sets_ne (r := r) (h x (by simp))
    have hs := split_sets x r h
    constructor
    · unfold setsOk
      rw [he, hs, Bool.false_or, List.all_map]
      apply List.all_eq_true.2
      intro y hy
      show (parseSet (setTxtOf y)).2 = true
      rw [(txt_fact (h y hy)).1]
    · unfold setsXs
      rw [he, hs, if_neg (by simp), List.map_map]
      conv => rhs; rw [← List.map_id (x :: r)]
      apply List.map_congr_left
      intro y hy
      show (((parseSet (setTxtOf y)).1 : Nat) : Int) = y
      have hy2 := h y hy
      rw [(txt_fact hy2).1]
      show ((y.toNat : Nat) : Int) = y
      omega
theorem head_fact {n : Int} (h : 1 ≤ n ∧ n ≤ 6) (r : List UInt8) : headB (UInt8.ofNat (48 + n.toNat) :: 58 :: r) = true ∧ headN (UInt8.ofNat (48 + n.toNat) :: 58 :: r) = n := by
  rcases (by omega : n = 1 ∨ n = 2 ∨ n = 3 ∨ n = 4 ∨ n = 5 ∨ n = 6) with rfl | rfl | rfl | rfl | rfl | rfl <;> exact ⟨rfl, rfl⟩
/-- A complex's text is read as the complex. -/
theorem pcx_txt {n : Int} {xs : List Int} (h : isCx n xs = true) : pcxOk (cxTxt n xs) = true ∧ pcxN (cxTxt n xs) = n ∧ pcxXs (cxTxt n xs) = xs := by
  obtain ⟨h1, h2⟩ := head_fact (cx_n h) (setsTxt xs)
  obtain ⟨h3, h4⟩ := sets_back (isCx_sets h)
  have e : cxTxt n xs = UInt8.ofNat (48 + n.toNat) :: 58 :: setsTxt xs := by unfold cxTxt; rw [h]; rfl
  have hd : (UInt8.ofNat (48 + n.toNat) :: 58 :: setsTxt xs).drop 2 = setsTxt xs := rfl
  have ho : pcxOk (cxTxt n xs) = true := by
    unfold pcxOk
    rw [e, hd, h1, h2, h3, h4, h]
    rfl
  refine ⟨ho, ?_, ?_⟩
  · unfold pcxN
    rw [ho, e]
    exact h2
  · unfold pcxXs
    rw [ho, e, hd]
    exact h4
theorem pcx_no {n : Int} {xs : List Int} (h : isCx n xs = false) : pcxOk (cxTxt n xs) = false := by
  unfold cxTxt
  rw [h]
  rfl
theorem pcx_txt_ok (n : Int) (xs : List Int) : pcxOk (cxTxt n xs) = isCx n xs := by
  cases h : isCx n xs
  · exact pcx_no h
  · exact (pcx_txt h).1
theorem setsTxt_len {xs : List Int} {m : Nat} (h : xs.length ≤ m) : (setsTxt xs).length ≤ 7 * m := by
  have h1 := lens_txts xs
  have key : ∀ ls : List (List UInt8), (Lib.join ls [44]).length ≤ Lib.lens ls + ls.length := by
    intro ls
    induction ls with
    | nil => simp [Lib.join, Lib.lens]
    | cons a l ih =>
      cases l with
      | nil => rw [Lib.join_one]; simp [Lib.lens]
      | cons b r =>
        rw [join_two]
        have e : Lib.lens (a :: b :: r) = a.length + Lib.lens (b :: r) := by simp [Lib.lens]
        rw [e, List.length_append, List.length_append, List.length_cons]
        simp only [List.length_cons, List.length_nil] at ih ⊢
        omega
  have h2 := key (xs.map setTxtOf)
  rw [List.length_map] at h2
  unfold setsTxt
  omega
theorem cxTxt_len (n : Int) (xs : List Int) : (cxTxt n xs).length ≤ 4000 := by
  unfold cxTxt
  split
  · rename_i h
    have := setsTxt_len (cx_len h)
    simp only [List.length_cons]
    omega
  · simp
/-- Made again from its faces. -/
theorem again {n : Int} {xs : List Int} (h : isCx n xs = true) : maxOf (inList (zs (facesOf n xs))) = maxOf (faceP xs) ∧ zs (maxOf (faceP xs)) = xs ∧ (facesOf n xs).length ≤ 64 ∧ ∀ s ∈ facesOf n xs, isSetB n (s : Int) = true := by
  rw [facesOf_yes h]
  refine ⟨?_, cx_max h, listOf_64 _, fun s hs => faceP_set h (mem_listOf.1 hs).2⟩
  apply maxOf_congr
  intro s hs
  rw [in_zs, Bool.eq_iff_iff, List.contains_iff_mem, mem_listOf]
  exact ⟨fun k => k.2, fun k => ⟨hs, k⟩⟩
end

/- Walks: ComplexText in the reference and in the program. -/
section
open Go.RowKit

theorem asS {P : Program} {f : Nat} {args : Array Value} {w : World} {l l' : List UInt8} (h : Calls P f args w fun e w' => RetS w l e w') (hl : l = l') : Calls P f args w fun e w' => RetS w l' e w' := by subst hl; exact h
theorem cxTxt_yes {n : Int} {xs : List Int} (h : isCx n xs = true) : cxTxt n xs = (fmtZ n ++ [58]) ++ setsTxt xs := by
  unfold cxTxt
  rw [h, fmtZ_small n (cx_n h)]
  rfl
theorem cxTxt_no {n : Int} {xs : List Int} (h : isCx n xs = false) : cxTxt n xs = [] := by
  unfold cxTxt
  rw [h]
  rfl
theorem complexTextS (n : Int) (v : Value) (xs : List Int) (w : World) (h : IntsAt w w.heap.size v xs) (hl : xs.length ≤ 1073741824) :
    Calls Tryz.prog 28 #[.agg #[.int .i64 n, v]] w fun e w' => RetS w (cxTxt n xs) e w' := by
  obtain ⟨A, c, rfl⟩ := reads_shape h
  obtain ⟨w1, hW1, at1, b1, z1⟩ := boxC w (.int .i64 n) (.slice A xs.length c) 26
  have R1 := hide (now_ h b1)
  have B1 := hide b1
  have At1 := hide at1
  obtain ⟨e0, e1⟩ := at1
  clear h b1 z1
  cases hcx : isCx n xs
  · have Hcx := hide hcx
    have HI : Hid (Calls Tryz.prog 25 #[.agg #[.int .i64 n, .slice A xs.length c]] w1 fun e w' => RetB w1 false e w') := by
      have h1 := isComplexS n _ xs w1 R1.out hl
      rw [hcx] at h1
      exact h1
    clear hcx
    go_enter Tryz.func28, Tryz.ntmps28
    go_wp2_with fail
    clear hW1
    refine HI.out.mono ?_
    rintro e w2 ⟨rfl, b2⟩
    have B2 := hide (nxt B1.out b2)
    go_wp2
    go_ret
    rw [cxTxt_no Hcx.out]
    exact ⟨rfl, B2.out⟩
  · have Hcx := hide hcx
    have HI : Hid (Calls Tryz.prog 25 #[.agg #[.int .i64 n, .slice A xs.length c]] w1 fun e w' => RetB w1 true e w') := by
      have h1 := isComplexS n _ xs w1 R1.out hl
      rw [hcx] at h1
      exact h1
    have hn := cx_n hcx
    obtain ⟨T1, hT1⟩ : ∃ T, T = fmtZ n := ⟨_, rfl⟩
    obtain ⟨S1, hS1⟩ : ∃ S, S = setsTxt xs := ⟨_, rfl⟩
    have HT1 := hide hT1
    have HS1 := hide hS1
    have hl1 : T1.length ≤ 21 := by rw [hT1]; exact fmtZ_len n (by omega) (by omega)
    have hl2 : S1.length ≤ 3136 := by rw [hS1]; exact setsTxt_len (cx_len hcx)
    clear hcx hT1 hS1
    go_enter Tryz.func28, Tryz.ntmps28
    go_wp2_with fail
    clear hW1
    refine HI.out.mono ?_
    rintro e w2 ⟨rfl, b2⟩
    have B2 := hide (nxt B1.out b2)
    have R2 := hide (now_ R1.out b2)
    have At2 := hide (At1.out.to b2)
    have hb0 : Below w2.heap.size w2 w2.drew := (Below.refl _ _).drew
    obtain ⟨x20, x21⟩ := AtC.to At2.out hb0
    have hcat1 : (⟨T1.toArray⟩ : ByteArray) ++ ⟨#[58]⟩ = ⟨(T1 ++ [58]).toArray⟩ := by
      apply ByteArray.ext
      simp
    have hcat2 : (⟨(T1 ++ [58]).toArray⟩ : ByteArray) ++ ⟨S1.toArray⟩ = ⟨((T1 ++ [58]) ++ S1).toArray⟩ := by
      apply ByteArray.ext
      simp
    have hl3 : (T1 ++ [58]).length = T1.length + 1 := by simp
    have hlA : (9223372036854775807 < T1.length + 1) = False := eq_false (by omega)
    have hlB : (9223372036854775807 < T1.length + 1 + S1.length) = False := eq_false (by omega)
    clear e0 e1 b2
    go_wp2_with fail
    go_region_law (first | (go_simp; go_at_call 65; refine (asS (formatIntS n _ (by omega)) HT1.out.symm).mono ?_; rintro e w3 ⟨rfl, b3⟩; have hb3 := nxt hb0 b3; obtain ⟨x30, x31⟩ := AtC.to At2.out hb3) | (go_simp; go_at_call 66; refine (asS (setsTextS _ xs _ (now_ R2.out hb3) hl) HS1.out.symm).mono ?_; rintro e w4 ⟨rfl, b4⟩; have hb4 := nxt hb3 b4))
    all_goals (
      go_wp2
      go_ret
      rw [cxTxt_yes Hcx.out, ← HT1.out, ← HS1.out, show (T1 ++ [58]) ++ S1 = T1 ++ 58 :: S1 by simp]
      exact ⟨rfl, B2.out.trans (hb4.mono B2.out.size)⟩)
theorem complexTextI (n : Int) (v : Value) (xs : List Int) (w : World) (h : IntsAt w w.heap.size v xs) (hl : xs.length ≤ 1073741824) (hT : Tab w) :
    Calls Tryz.prog 27 #[.agg #[.int .i64 n, v]] w fun e w' => RetS w (cxTxt n xs) e w' := by
  obtain ⟨A, c, rfl⟩ := reads_shape h
  obtain ⟨w1, hW1, at1, b1, z1⟩ := boxC w (.int .i64 n) (.slice A xs.length c) 26
  have R1 := hide (now_ h b1)
  have B1 := hide b1
  have At1 := hide at1
  have HT := hide hT
  obtain ⟨e0, e1⟩ := at1
  clear h b1 z1 hT
  cases hcx : isCx n xs
  · have Hcx := hide hcx
    have HI : Hid (Calls Tryz.prog 24 #[.agg #[.int .i64 n, .slice A xs.length c]] w1 fun e w' => RetB w1 false e w') := by
      have h1 := isComplexI n _ xs w1 R1.out hl
      rw [hcx] at h1
      exact h1
    clear hcx
    go_enter Tryz.func27, Tryz.ntmps27
    go_wp2_with fail
    clear hW1
    refine HI.out.mono ?_
    rintro e w2 ⟨rfl, b2⟩
    have B2 := hide (nxt B1.out b2)
    go_wp2
    go_ret
    rw [cxTxt_no Hcx.out]
    exact ⟨rfl, B2.out⟩
  · have Hcx := hide hcx
    have HI : Hid (Calls Tryz.prog 24 #[.agg #[.int .i64 n, .slice A xs.length c]] w1 fun e w' => RetB w1 true e w') := by
      have h1 := isComplexI n _ xs w1 R1.out hl
      rw [hcx] at h1
      exact h1
    have hn := cx_n hcx
    obtain ⟨T1, hT1⟩ : ∃ T, T = fmtZ n := ⟨_, rfl⟩
    obtain ⟨S1, hS1⟩ : ∃ S, S = setsTxt xs := ⟨_, rfl⟩
    have HT1 := hide hT1
    have HS1 := hide hS1
    have hl1 : T1.length ≤ 21 := by rw [hT1]; exact fmtZ_len n (by omega) (by omega)
    have hl2 : S1.length ≤ 3136 := by rw [hS1]; exact setsTxt_len (cx_len hcx)
    clear hcx hT1 hS1
    go_enter Tryz.func27, Tryz.ntmps27
    go_wp2_with fail
    clear hW1
    refine HI.out.mono ?_
    rintro e w2 ⟨rfl, b2⟩
    have B2 := hide (nxt B1.out b2)
    have R2 := hide (now_ R1.out b2)
    have At2 := hide (At1.out.to b2)
    have HT2 := hide (HT.out.on B2.out)
    have hb0 : Below w2.heap.size w2 w2.drew := (Below.refl _ _).drew
    obtain ⟨x20, x21⟩ := AtC.to At2.out hb0
    have hcat1 : (⟨T1.toArray⟩ : ByteArray) ++ ⟨#[58]⟩ = ⟨(T1 ++ [58]).toArray⟩ := by
      apply ByteArray.ext
      simp
    have hcat2 : (⟨(T1 ++ [58]).toArray⟩ : ByteArray) ++ ⟨S1.toArray⟩ = ⟨((T1 ++ [58]) ++ S1).toArray⟩ := by
      apply ByteArray.ext
      simp
    have hl3 : (T1 ++ [58]).length = T1.length + 1 := by simp
    have hlA : (9223372036854775807 < T1.length + 1) = False := eq_false (by omega)
    have hlB : (9223372036854775807 < T1.length + 1 + S1.length) = False := eq_false (by omega)
    clear e0 e1 b2
    go_wp2_with fail
    go_region_law (first | (go_simp; go_at_call 63; refine (asS (formatIntI n _ (by omega) (HT2.out.on hb0)) HT1.out.symm).mono ?_; rintro e w3 ⟨rfl, b3⟩; have hb3 := nxt hb0 b3; obtain ⟨x30, x31⟩ := AtC.to At2.out hb3) | (go_simp; go_at_call 64; refine (asS (setsTextI _ xs _ (now_ R2.out hb3) hl) HS1.out.symm).mono ?_; rintro e w4 ⟨rfl, b4⟩; have hb4 := nxt hb3 b4))
    all_goals (
      go_wp2
      go_ret
      rw [cxTxt_yes Hcx.out, ← HT1.out, ← HS1.out, show (T1 ++ [58]) ++ S1 = T1 ++ 58 :: S1 by simp]
      exact ⟨rfl, B2.out.trans (hb4.mono B2.out.size)⟩)
end

/- Walks: the draws of FnComplexes: DrawComplexText, DrawParseComplex, DrawMakeComplex, DrawHasFace, l3Copy, DrawEqualComplex, DrawFullComplex. -/
section
open Go.RowKit

theorem drawComplexTextS (v : Value) (L : List UInt8) (w : World) (h : BytesAt w w.heap.size v L) (hL : L.length ≤ 1073741824) :
    Calls Tryz.prog 5 #[v] w fun e w' => RetDX w e w' := by
  obtain ⟨w1, hW1, _, rs1, b1, z1⟩ := boxRes w 26
  have H1 := hide (nowB9 h b1)
  have Rs1 := hide rs1
  have B1 := hide b1
  have Hz1 := hide z1
  clear h rs1 b1 z1
  go_enter Tryz.func5, Tryz.ntmps5
  go_wp2_with fail
  clear hW1
  refine (l1NewS v L w1 H1.out hL).mono ?_
  rintro e w2 ⟨p, rfl, hp, c2, b2⟩
  have D2 := hide (Dq.start Rs1.out B1.out (Nat.le_refl _) hp c2 b2)
  have hz2 : w.heap.size + 1 ≤ w2.heap.size := by have := Hz1.out; have := b2.size; omega
  clear c2 b2
  go_wp2_with fail
  refine (l3BentS p v L w2 D2.out.cur hL).mono ?_
  rintro e w3 ⟨n, u, xs, hf, rfl, o3, c3, g3⟩
  have D3 := hide (D2.out.draw c3 g3)
  have O3 := hide (own_mono o3 hz2)
  have Hf := hide hf
  obtain ⟨A, c, rfl⟩ := own_shape o3
  obtain ⟨⟨q0, q1, hq0, hq1⟩, f0, f1⟩ := D3.out.res
  have hr := D3.out.res.lt
  clear hf o3 c3 g3 D2
  go_wp2
  refine bodyPost_ret (v := .agg #[.int .i64 n, .slice A xs.length c]) (by simp [results, Tryz.results5, go_sem, hq0, hq1]) rfl ?_
  obtain ⟨h1, h2⟩ := D3.out.own O3.out (.int .i64 n) (.slice A xs.length c)
  exact ⟨n, _, xs, Hf.out, rfl, h1, h2⟩
theorem drawHasFaceS (v : Value) (L : List UInt8) (w : World) (h : BytesAt w w.heap.size v L) (hL : L.length ≤ 1073741824) :
    Calls Tryz.prog 12 #[v] w fun e w' => RetDXI w e w' := by
  obtain ⟨w1, hW1, _, rs1, b1, z1⟩ := boxRes w 26
  have H1 := hide (nowB9 h b1)
  have Rs1 := hide rs1
  have B1 := hide b1
  have Hz1 := hide z1
  clear h rs1 b1 z1
  go_enter Tryz.func12, Tryz.ntmps12
  go_wp2_with fail
  clear hW1
  refine (l3CaseS v L w1 H1.out hL).mono ?_
  rintro e w2 ⟨n, u, xs, t, hf, ht1, ht2, rfl, o2, b2⟩
  obtain ⟨A, c, rfl⟩ := own_shape o2
  have Hf := hide hf
  have Rs2 := hide (Rs1.out.to b2)
  have B2 := hide (nxt B1.out b2)
  have O2 : Hid (OwnV 3 w2 (w.heap.size + 1) (.slice A xs.length c) (ints xs)) := own_mono o2 (by have := Hz1.out; omega)
  clear hf o2 b2
  obtain ⟨w3, hW3⟩ : ∃ X, w2.alloc (.cells #[.int .i64 n, .slice A xs.length c] 26) = X := ⟨_, rfl⟩
  have hb3 := below_alloc w2 (.cells #[.int .i64 n, .slice A xs.length c] 26)
  have X3 := hide (Bx.new (B := w.heap.size + 1) w2 (.int .i64 n) (.slice A xs.length c) 26 (by have := Rs2.out.lt; omega))
  rw [hW3] at hb3 X3
  have Rs3 := hide (Rs2.out.to hb3)
  have B3 := hide (nxt B2.out hb3)
  have O3 := hide (own_below O2.out hb3)
  obtain ⟨a0, a1⟩ := X3.out.at_
  obtain ⟨⟨q0, q1, hq0, hq1⟩, f0, f1⟩ := Rs3.out
  have hr := Rs3.out.lt
  clear hb3
  go_wp2
  refine bodyPost_ret (v := .tuple #[.agg #[.int .i64 n, .slice A xs.length c], .int .i64 t]) (by simp [results, Tryz.results12, go_sem, hq0, hq1]) rfl ?_
  exact ⟨n, _, xs, t, Hf.out, ht1, ht2, rfl, own_mono (own_setBelow (own_setBelow O3.out (Nat.lt_succ_self _) _ _) (Nat.lt_succ_self _) _ _) (Nat.le_succ _), below_store B3.out (Nat.le_refl _) _ _⟩

theorem drawFullComplexS (v : Value) (L : List UInt8) (w : World) (h : BytesAt w w.heap.size v L) (hL : L.length ≤ 1073741824) :
    Calls Tryz.prog 14 #[v] w fun e w' => ∃ t : Int, -1 ≤ t ∧ t ≤ 8 ∧ e = .returned (.int .i64 t) ∧ Below w.heap.size w w' := by
  have H := hide h
  clear h
  go_enter Tryz.func14, Tryz.ntmps14
  go_wp2_with fail
  refine (l1NewS v L w H.out hL).mono ?_
  rintro e w1 ⟨p, rfl, hp, c1, b1⟩
  have B1 := hide b1
  have C1 := hide c1
  clear b1 c1
  go_wp2_with fail
  refine (l1BelowS p v L _ w1 C1.out hL (by omega)).mono ?_
  rintro e w2 ⟨r, hr, _, rfl, c2, g2⟩
  have hr' := hr (by omega)
  have B2 := hide (cur_below B1.out B1.out.size g2 hp)
  clear c2 g2 hr
  go_wp2
  go_ret
  exact ⟨_, by omega, by omega, rfl, B2.out⟩
theorem drawMakeComplexS (v : Value) (L : List UInt8) (w : World) (h : BytesAt w w.heap.size v L) (hL : L.length ≤ 1073741824) :
    Calls Tryz.prog 9 #[v] w fun e w' => ∃ (n : Int) (u : Value) (xs : List Int), 0 ≤ n ∧ n ≤ 7 ∧ Small xs ∧ e = .returned (.tuple #[.int .i64 n, u]) ∧ OwnV 3 w' w.heap.size u (ints xs) ∧ Below w.heap.size w w' := by
  have H := hide h
  clear h
  go_enter Tryz.func9, Tryz.ntmps9
  go_wp2_with fail
  refine (l1NewS v L w H.out hL).mono ?_
  rintro e w1 ⟨p, rfl, hp, c1, b1⟩
  have B1 := hide b1
  have C1 := hide c1
  clear b1 c1
  go_wp2_with fail
  refine (pickLitIntS p v L [1, 2, 3, 4, 5, 6, 6, 6, 0, 7] _ w1 C1.out hL (by decide) (by decide)).mono ?_
  rintro e w2 ⟨x, hx, rfl, c2, g2⟩
  have hx' : 0 ≤ x ∧ x ≤ 7 := by
    simp only [List.mem_cons, List.not_mem_nil, or_false] at hx
    omega
  have B2 := hide (cur_below B1.out B1.out.size g2 hp)
  have C2 := hide c2
  clear c2 g2 hx
  go_wp2_with fail
  refine (l2SetsS p v L w2 C2.out hL).mono ?_
  rintro e w3 ⟨u, xs, hsm, rfl, o3, _, g3⟩
  have B3 := hide (cur_below B2.out B2.out.size g3 hp)
  have O3 := hide (own_mono o3 B2.out.size)
  have Hsm := hide hsm
  clear o3 g3 hsm
  go_wp2
  go_ret2
  exact ⟨x, _, xs, hx'.1, hx'.2, Hsm.out, rfl, O3.out, B3.out⟩
theorem drawParseComplexS (v : Value) (L : List UInt8) (w : World) (h : BytesAt w w.heap.size v L) (hL : L.length ≤ 1073741824) :
    Calls Tryz.prog 6 #[v] w fun e w' => ∃ s : List UInt8, s.length ≤ 3145728 ∧ e = .returned (.string ⟨s.toArray⟩) ∧ Below w.heap.size w w' := by
  have H := hide h
  clear h
  go_enter Tryz.func6, Tryz.ntmps6
  go_wp2_with fail
  refine (l1NewS v L w H.out hL).mono ?_
  rintro e w1 ⟨p, rfl, hp, c1, b1⟩
  have B1 := hide b1
  have C1 := hide c1
  clear b1 c1
  go_wp2_with fail
  refine (l3DrawS p v L w1 C1.out hL).mono ?_
  rintro e w2 ⟨n, u, xs, hf, rfl, o2, c2, g2⟩
  have B2 := hide (cur_below B1.out B1.out.size g2 hp)
  have C2 := hide c2
  have O2 := hide o2
  have hxl : xs.length ≤ 900 := hf.2.2.1
  have htl := cxTxt_len n xs
  clear c2 g2 hf o2
  go_wp2_with fail
  refine (complexTextS n _ xs w2 (own_reads O2.out) (by omega)).mono ?_
  rintro e w3 ⟨rfl, b3⟩
  have B3 := hide (nxt B2.out b3)
  have C3 := hide (C2.out.to b3)
  generalize cxTxt n xs = tx at *
  clear b3
  go_wp2_with fail
  refine (l1TurnedS p v L tx _ [[58], [44], [97], [45], [102], [51], [54]] _ (C3.out.to (below_alloc _ _)) hL (by omega) (lit_strs w3 [[58], [44], [97], [45], [102], [51], [54]] _ (by decide)) (by decide) (by decide) (by decide) (fun j hj => ?_) (fun b o n c e => ?_)).mono ?_
  · have h1 : w3.heap.size = j := Option.some.inj (show some w3.heap.size = some j from hj)
    have h2 := C3.out.lt
    omega
  · cases e
    have h2 := C3.out.lt
    omega
  rintro e w4 ⟨s, hs, rfl, _, g4⟩
  have B4 := hide (cur_below B3.out B3.out.size (grown_of_alloc g4) hp)
  clear g4
  go_wp2
  go_ret
  exact ⟨s, hs, rfl, B4.out⟩

set_option maxHeartbeats 1600000 in
set_option maxRecDepth 100000 in
theorem l3CopyS (n : Int) (v : Value) (xs : List Int) (w : World) (h : IntsAt w w.heap.size v xs) (hl : xs.length ≤ 1048576) :
    Calls Tryz.prog 51 #[.agg #[.int .i64 n, v]] w fun e w' => ∃ u, e = .returned (.agg #[.int .i64 n, u]) ∧ OwnV 3 w' w.heap.size u (ints xs) ∧ Below w.heap.size w w' := by
  obtain ⟨A, c, rfl⟩ := reads_shape h
  obtain ⟨w1, hW1, at1, b1, z1⟩ := boxC w (.int .i64 n) (.slice A xs.length c) 26
  obtain ⟨w2, hW2, _, rs2, b2, z2⟩ := boxRes w1 26
  have b02 := nxt b1 b2
  have R2 := hide (now_ h b02)
  have at1 := at1.to b2
  have At1 := hide at1
  have Rs2 := hide rs2
  have B2 := hide b02
  have Hle : Hid (w.heap.size ≤ w1.heap.size) := by show _ ≤ _; omega
  have Hlt : Hid (w1.heap.size < w2.heap.size) := by show _ < _; omega
  have Hne1 : Hid (w.heap.size ≠ w1.heap.size) := by show _ ≠ _; omega
  obtain ⟨e1_0, e1_1⟩ := at1
  clear h b1 b2 b02 z1 z2 rs2
  have hlen0 : ([] : List Int).length + xs.length < 17179869184 := by show 0 + xs.length < _; omega
  have Sx : Hid (Below w.heap.size w w2.drew ∧ Res w1.heap.size w2.drew) := ⟨B2.out.drew, by have h := Rs2.out; exact h⟩
  have hK : Hid (∀ W W' : World, (AtC W w.heap.size (.int .i64 n) (.slice A xs.length c) ∧ Hid (Below w.heap.size w W ∧ Res w1.heap.size W)) → Below W.heap.size W W' → (AtC W' w.heap.size (.int .i64 n) (.slice A xs.length c) ∧ Hid (Below w.heap.size w W' ∧ Res w1.heap.size W'))) := fun W W' h k => ⟨h.1.to k, nxt h.2.1 k, h.2.2.to k⟩
  have hKs : Hid (∀ (W : World) (x y : Value), (AtC W w.heap.size (.int .i64 n) (.slice A xs.length c) ∧ Hid (Below w.heap.size w W ∧ Res w1.heap.size W)) → (AtC ((W.setCell ⟨w1.heap.size, 0, none⟩ x).setCell ⟨w1.heap.size, 1, none⟩ y) w.heap.size (.int .i64 n) (.slice A xs.length c) ∧ Hid (Below w.heap.size w ((W.setCell ⟨w1.heap.size, 0, none⟩ x).setCell ⟨w1.heap.size, 1, none⟩ y) ∧ Res w1.heap.size ((W.setCell ⟨w1.heap.size, 0, none⟩ x).setCell ⟨w1.heap.size, 1, none⟩ y)))) := fun W x y h => ⟨h.1.store Hne1.out x y, below_store h.2.1 Hle.out x y, h.2.2.store x y⟩
  have S2 : AtC w2 w.heap.size (.int .i64 n) (.slice A xs.length c) ∧ Hid (Below w.heap.size w w2 ∧ Res w1.heap.size w2) := ⟨At1.out, B2.out, Rs2.out⟩
  have ho0 : OwnV 3 (w2.alloc (.cells #[] 3)).drew w2.heap.size (.slice (some ⟨w2.heap.size, 0, none⟩) 0 0) (ints []) := own_empty _ _
  have hba : Below w2.heap.size w2 (w2.alloc (.cells #[] 3)).drew := (below_alloc w2 _).drew
  have hr0 := now_ R2.out hba
  have hz0 : w2.heap.size ≤ (w2.alloc (.cells #[] 3)).drew.heap.size := hba.size
  go_enter Tryz.func51, Tryz.ntmps51
  go_wp2_with fail
  clear hW1 hW2
  go_region_held3 (fun W => ((W.cell? ⟨w.heap.size, 0, none⟩ = some (.int .i64 n) ∧ W.cell? ⟨w.heap.size, 1, none⟩ = some (.slice A xs.length c)) ∧ Hid (Below w.heap.size w W ∧ Res w1.heap.size W))) (first | exact ⟨⟨e1_0, e1_1⟩, Sx⟩ | exact hK.out _ _ S2 (by assumption) | exact hK.out _ _ (by assumption) (by assumption) | exact hKs.out _ _ _ (by assumption) | assumption | go_keep) ((refine step_appL ho0 hr0 Tryz.underlying24 infoI rfl _ _ rfl rfl rfl hlen0 hz0 ?_; intro v6 w6 ho6 hb6; have hbb6 := hba.trans hb6; obtain ⟨A6, c6, rfl⟩ := own_shape ho6; have hS6 := hK.out _ _ S2 hbb6; obtain ⟨⟨q0, q1, h90, h91⟩, f90, f91⟩ := hS6.2.2; have h9r := hS6.2.2.lt))
  all_goals (
    have ho := own_mono (own_setBelow (own_setBelow ho6 Hlt.out 0 (.int .i64 n)) Hlt.out 1 (.slice A6 ([] ++ xs).length c6)) (Nat.le_trans Hle.out (Nat.le_of_lt Hlt.out))
    rw [List.nil_append] at ho
    have Ho := hide ho
    have Hb := hide (below_store hS6.2.1 Hle.out (.int .i64 n) (.slice A6 xs.length c6))
    clear ho6 hb6 ho
    go_wp2
    refine bodyPost_ret (v := .agg #[.int .i64 n, .slice A6 xs.length c6]) (by simp [results, Tryz.results51, go_sem, h90, h91]) rfl ?_
    exact ⟨_, rfl, Ho.out, Hb.out⟩)
end

/- Walks: DrawEqualComplex. -/
section
open Go.RowKit

set_option maxHeartbeats 3200000 in
theorem drawEqualComplexS (v : Value) (L : List UInt8) (w : World) (h : BytesAt w w.heap.size v L) (hL : L.length ≤ 1073741824) :
    Calls Tryz.prog 13 #[v] w fun e w' => RetDXX w e w' := by
  obtain ⟨w1, hW1, _, rs1, b1, z1⟩ := boxRes w 26
  obtain ⟨w2, hW2, _, rs2, b2, z2⟩ := boxRes w1 26
  have H1 := hide (nowB9 h (nxt b1 b2))
  have Rs1 := hide (rs1.to b2)
  have Rs2 := hide rs2
  have B1 := hide (nxt b1 b2)
  have Hz1 := hide z1
  have Hz2 := hide z2
  have h12 : w.heap.size < w1.heap.size := by omega
  have hneA : w.heap.size ≠ w1.heap.size := by omega
  have hneB : w1.heap.size ≠ w.heap.size := by omega
  clear h rs1 rs2 b1 z1 b2 z2
  go_enter Tryz.func13, Tryz.ntmps13
  go_wp2_with fail
  clear hW1 hW2
  refine (l1NewS v L w2 H1.out hL).mono ?_
  rintro e w3 ⟨p, rfl, hp, c3, b3⟩
  have D3 : Hid (Dw w w.heap.size w1.heap.size p v L w3) := ⟨Dq.start Rs1.out B1.out (Nat.le_refl _) hp c3 b3, Rs2.out.to b3, by have := Hz2.out; omega⟩
  have hz3 : w1.heap.size + 1 ≤ w3.heap.size := by have := Hz2.out; have := b3.size; omega
  clear c3 b3
  go_wp2_with fail
  refine (l3BentS p v L w3 D3.out.q.cur hL).mono ?_
  rintro e w4 ⟨n, u, xs, hf, rfl, o4, c4, g4⟩
  have D4 := hide (D3.out.draw c4 g4)
  have O4 := hide (own_mono o4 hz3)
  have Hf := hide hf
  obtain ⟨A, c, rfl⟩ := own_shape o4
  have hne : Hid (∀ j, Value.ownBlock (.slice A xs.length c) = some j → (some p : Option Nat) ≠ some j) := fun j hj e => by
    have h1 := (own_block o4 j hj).1
    have h2 := Option.some.inj e
    have h3 := D3.out.q.cur.lt
    omega
  have hn1 : -100 ≤ n := hf.1
  have hn2 : n ≤ 100 := hf.2.1
  have hz4 : w1.heap.size + 1 ≤ w4.heap.size := Nat.le_trans hz3 g4.size
  clear hf o4 c4 g4 D3
  obtain ⟨w5, hW5⟩ : ∃ X, w4.alloc (.cells #[.int .i64 n, .slice A xs.length c] 26) = X := ⟨_, rfl⟩
  have hb5 := below_alloc w4 (.cells #[.int .i64 n, .slice A xs.length c] 26)
  have B5 := hide (Bx.new (B := w.heap.size + 1) w4 (.int .i64 n) (.slice A xs.length c) 26 (by have := D4.out.q.res.lt; omega))
  rw [hW5] at hb5 B5
  have D5 := hide (D4.out.next hb5)
  have O5 := hide (own_below O4.out hb5)
  have hpb : p < w4.heap.size := D4.out.q.cur.lt
  have hz5 : w1.heap.size + 1 ≤ w5.heap.size := Nat.le_trans hz4 hb5.size
  clear hb5 O4 D4
  go_wp2_with fail
  clear hW5
  refine (l1OnceS p v L _ w5 D5.out.q.cur hL (by omega)).mono ?_
  rintro e w6 ⟨b, rfl, c6, g6⟩
  have D6 := hide (D5.out.draw c6 g6)
  have B6 := hide (B5.out.draw g6 hpb)
  have O6 := hide (own_grown O5.out g6 hne.out)
  have hz6 : w1.heap.size + 1 ≤ w6.heap.size := Nat.le_trans hz5 g6.size
  clear c6 g6 D5 B5 O5
  have D6d : Hid (Dw w w.heap.size w1.heap.size p v L w6.drew) := D6.out.next (Below.refl _ _).drew
  have O6d : Hid (OwnV 3 w6.drew (w1.heap.size + 1) (.slice A xs.length c) (ints xs)) := own_below O6.out (Below.refl _ _).drew
  have B6d : Hid (Bx (w.heap.size + 1) w4.heap.size (.int .i64 n) (.slice A xs.length c) w6.drew) := B6.out.next (Below.refl _ _).drew
  have hz6d : w1.heap.size + 1 ≤ w6.drew.heap.size := hz6
  obtain ⟨a60, a61⟩ := B6d.out.at_
  have C6d := D6d.out.q.cur
  clear D6 B6 O6
  cases b
  · go_wp2_with fail
    go_region_law ((go_simp; go_at_call 31; refine (l3BentS p v L _ C6d hL).mono ?_; rintro e w7 ⟨n7, u7, ys, hf7, rfl, o7, c7, g7⟩; obtain ⟨A7, k7, rfl⟩ := own_shape o7; have D7 := hide (D6d.out.draw c7 g7); have B7 := hide (B6d.out.draw g7 hpb); have O7 := hide (own_grown O6d.out g7 hne.out); have Y7 := hide (own_mono o7 hz6d); have Hf7 := hide hf7; obtain ⟨a70, a71⟩ := B7.out.at_; obtain ⟨⟨q0, q1, hq0, hq1⟩, f0, f1⟩ := D7.out.q.res; obtain ⟨⟨r0, r1, hr0, hr1⟩, k0, k1⟩ := D7.out.res2; have hr := D7.out.q.res.lt; have hr2 := D7.out.res2.lt))
    all_goals (
      go_wp2
      refine bodyPost_ret (v := .tuple #[.agg #[.int .i64 n, .slice A xs.length c], .agg #[.int .i64 n7, .slice A7 ys.length k7]]) (by simp [results, Tryz.results13, go_sem, hq0, hq1, hr0, hr1]) rfl ?_
      exact ⟨n, _, xs, n7, _, ys, Hf.out, Hf7.out, rfl, own_set4 O7.out h12 _ _ _ _, own_set4 Y7.out h12 _ _ _ _, below_set4 D7.out.q.bel h12 _ _ _ _⟩)
  · go_wp2_with fail
    have hxl6 : xs.length ≤ 1000 := Hf.out.2.2.1
    go_region_law ((go_simp; go_at_call 51; refine (l3CopyS n _ xs _ (own_reads O6d.out) (by omega)).mono ?_; rintro e w7 ⟨u7, rfl, o7, b7⟩; obtain ⟨A7, k7, rfl⟩ := own_shape o7; have D7 := hide (D6d.out.next b7); have B7 := hide (B6d.out.next b7); have O7 := hide (own_below O6d.out b7); have Y7 := hide (own_mono o7 hz6d); obtain ⟨a70, a71⟩ := B7.out.at_; obtain ⟨⟨q0, q1, hq0, hq1⟩, f0, f1⟩ := D7.out.q.res; obtain ⟨⟨r0, r1, hr0, hr1⟩, k0, k1⟩ := D7.out.res2; have hr := D7.out.q.res.lt; have hr2 := D7.out.res2.lt))
    all_goals (
      go_wp2
      refine bodyPost_ret (v := .tuple #[.agg #[.int .i64 n, .slice A xs.length c], .agg #[.int .i64 n, .slice A7 xs.length k7]]) (by simp [results, Tryz.results13, go_sem, hq0, hq1, hr0, hr1]) rfl ?_
      exact ⟨n, _, xs, n, _, xs, Hf.out, Hf.out, rfl, own_set4 O7.out h12 _ _ _ _, own_set4 Y7.out h12 _ _ _ _, below_set4 D7.out.q.bel h12 _ _ _ _⟩)
end

/- Small laws on results that are complexes. -/
section
open Go.RowKit

theorem cbXs_64 (ok : Bool) (P : Nat → Bool) : (cbXs ok (maxOf P)).length ≤ 64 := by
  unfold cbXs
  split
  · rw [zs_len20]
    exact maxOf_64 P
  · simp
theorem asCB {P : Program} {f : Nat} {args : Array Value} {w : World} {e0 : TypeId} {N N' : Int} {xs xs' : List Int} {b b' : Bool} (h : Calls P f args w fun e w' => RetCB e0 w N xs b e w') (hN : N' = N) (hx : xs' = xs) (hb : b' = b) : Calls P f args w fun e w' => RetCB e0 w N' xs' b' e w' := by
  subst hN hx hb
  exact h
theorem asCB2 {P : Program} {f : Nat} {args : Array Value} {w : World} {e0 : TypeId} {N N' : Int} {xs xs' : List Int} {b b' : Bool} (h : Calls P f args w fun e w' => RetCB e0 w N xs b e w') (hN : N = N') (hx : xs = xs') (hb : b = b') : Calls P f args w fun e w' => RetCB e0 w N' xs' b' e w' := by
  subst hN hx hb
  exact h
theorem sameComplex_is {n m : Int} {xs ys : List Int} (hn : n = m) (hx : xs = ys) (v1 v2 : Value) (w : World) (h1 : IntsAt w w.heap.size v1 xs) (h2 : IntsAt w w.heap.size v2 ys) (hl : xs.length ≤ 1073741824) :
    Calls Tryz.prog 19 #[.agg #[.int .i64 n, v1], .agg #[.int .i64 m, v2]] w fun e w' => RetB w true e w' := by
  subst hn hx
  exact sameComplex_same n v1 v2 xs w h1 h2 hl
end
end Go.Proofs.YtmkacjpjcfffmabGreatDoor
