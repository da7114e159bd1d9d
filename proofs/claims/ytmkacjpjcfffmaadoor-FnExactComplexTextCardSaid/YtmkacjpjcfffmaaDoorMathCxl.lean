/- Plain laws: a complex is the row of the greatest of its faces; rows of sets in order. No program is named here. -/
import Derived.Test.YtmkacjpjcfffmaaDoorMathJoin
import Derived.Test.YtmkacjpjcfffmaaDoorW20
namespace Go.Proofs.YtmkacjpjcfffmaaDoor

def key (s : Nat) : Nat := pc s * 64 + s
def Ord (l : List Nat) : Prop := l.Pairwise fun a b => key a < key b
theorem ord_ext : ∀ {l r : List Nat}, Ord l → Ord r → (∀ s, s ∈ l ↔ s ∈ r) → l = r
  | [], [], _, _, _ => rfl
  | [], b :: r, _, _, h => by have := (h b).2 (by simp); simp at this
  | a :: l, [], _, _, h => by have := (h a).1 (by simp); simp at this
  | a :: l, b :: r, h1, h2, h => by
    have h1' := List.pairwise_cons.1 h1
    have h2' := List.pairwise_cons.1 h2
    have hab : a = b := by
      rcases List.mem_cons.1 ((h a).1 (by simp)) with e | ha
      · exact e
      · rcases List.mem_cons.1 ((h b).2 (by simp)) with e | hb
        · exact e.symm
        · have := h2'.1 a ha
          have := h1'.1 b hb
          omega
    subst hab
    congr 1
    refine ord_ext h1'.2 h2'.2 fun s => ⟨fun hs => ?_, fun hs => ?_⟩
    · rcases List.mem_cons.1 ((h s).1 (by simp [hs])) with e | hs'
      · subst e
        have := h1'.1 s hs
        omega
      · exact hs'
    · rcases List.mem_cons.1 ((h s).2 (by simp [hs])) with e | hs'
      · subst e
        have := h2'.1 s hs
        omega
      · exact hs'
def ordB : List Nat → Bool
  | [] => true
  | a :: l => (l.all fun b => decide (key a < key b)) && ordB l
theorem ordB_ord : ∀ {l : List Nat}, ordB l = true → Ord l
  | [], _ => List.Pairwise.nil
  | a :: l, h => by
    unfold ordB at h
    rw [Bool.and_eq_true] at h
    exact List.pairwise_cons.2 ⟨fun b hb => of_decide_eq_true (List.all_eq_true.1 h.1 b hb), ordB_ord h.2⟩
def allF : List Nat := listOf fun _ => true
theorem allF_ord : Ord allF := ordB_ord (by decide +kernel)
theorem allF_len : allF.length = 64 := by decide +kernel
theorem listOf_all (P : Nat → Bool) : listOf P = allF.filter P := by
  unfold allF
  rw [listOf_filter]
  apply listOf_congr
  intro s _
  simp
theorem listOf_ord (P : Nat → Bool) : Ord (listOf P) := by
  rw [listOf_all]
  exact allF_ord.filter P
theorem listOf_64 (P : Nat → Bool) : (listOf P).length ≤ 64 := by
  rw [listOf_all, ← allF_len]
  exact List.length_filter_le _ _
/-- Faces of two families: those of either and those of both are as many as the two have. -/
theorem filter_two (P Q : Nat → Bool) : ∀ l : List Nat, (l.filter fun s => P s || Q s).length + (l.filter fun s => P s && Q s).length = (l.filter P).length + (l.filter Q).length
  | [] => rfl
  | a :: l => by
    have ih := filter_two P Q l
    cases hp : P a <;> cases hq : Q a <;> simp [hp, hq] <;> omega
theorem listOf_two (P Q : Nat → Bool) : (listOf fun s => P s || Q s).length + (listOf fun s => P s && Q s).length = (listOf P).length + (listOf Q).length := by
  rw [listOf_all, listOf_all, listOf_all P, listOf_all Q]
  exact filter_two P Q allF

theorem mem_maxOf {P : Nat → Bool} {s : Nat} : s ∈ maxOf P ↔ s < 64 ∧ P s = true ∧ ∀ t, t < 64 → P t = true → sub s t = true → t = s := by
  rw [maxOf_eq, mem_listOf, Bool.and_eq_true, keepMax_iff]
theorem maxOf_ord (P : Nat → Bool) : Ord (maxOf P) := by
  rw [maxOf_eq]
  exact listOf_ord _
theorem maxOf_64 (P : Nat → Bool) : (maxOf P).length ≤ 64 := by
  rw [maxOf_eq]
  exact listOf_64 _
/-- Each set of a family lies in a greatest one. -/
theorem under_max {P : Nat → Bool} : ∀ (d s : Nat), s < 64 → P s = true → 6 - pc s ≤ d → ∃ t, t ∈ maxOf P ∧ sub s t = true
  | d, s, hs, hp, hd => by
    by_cases hm : ∀ t, t < 64 → P t = true → sub s t = true → t = s
    · exact ⟨s, mem_maxOf.2 ⟨hs, hp, hm⟩, sub_self s⟩
    · obtain ⟨t, ht, hpt, hst, hne⟩ : ∃ t, t < 64 ∧ P t = true ∧ sub s t = true ∧ t ≠ s := by
        refine Classical.byContradiction fun hno => hm fun t ht hpt hst => ?_
        exact Classical.byContradiction fun hne => hno ⟨t, ht, hpt, hst, hne⟩
      have h1 := sub_pc hs ht hst hne
      have h2 := pc_le6 t ht
      cases d with
      | zero => omega
      | succ d =>
        obtain ⟨u, hu, htu⟩ := under_max d t ht hpt (by omega)
        exact ⟨u, hu, sub_trans2 hst htu⟩
def Down (P : Nat → Bool) : Prop := ∀ s t, s < 64 → t < 64 → sub s t = true → P t = true → P s = true
theorem faceP_max {P : Nat → Bool} (hd : Down P) {s : Nat} (hs : s < 64) : faceP (zs (maxOf P)) s = P s := by
  rw [faceP_zs, Bool.eq_iff_iff, List.any_eq_true]
  constructor
  · rintro ⟨t, ht, hst⟩
    obtain ⟨h1, h2, _⟩ := mem_maxOf.1 ht
    exact hd s t hs h1 hst h2
  · intro hp
    obtain ⟨t, ht, hst⟩ := under_max 6 s hs hp (by omega)
    exact ⟨t, ht, hst⟩
theorem faceP_Down (xs : List Int) : Down (faceP xs) := fun _ _ _ _ h k => faceP_down h k

theorem cx_keys {n : Int} {xs : List Int} (h : isCx n xs = true) : ∀ d k, k + 1 + d < xs.length → key (xs.getD k 0).toNat < key (xs.getD (k + 1 + d) 0).toNat := by
  have step : ∀ k, k + 1 < xs.length → key (xs.getD k 0).toNat < key (xs.getD (k + 1) 0).toNat := by
    intro k hk
    have h1 := (isCx_inv h).2.1 (k + 1) hk
    unfold cxFirst at h1
    rw [Bool.and_eq_true] at h1
    have h2 := h1.2
    rw [show (k + 1 == 0) = false by simp, Bool.false_or, show k + 1 - 1 = k by omega] at h2
    unfold beforeI at h2
    simp only [Bool.or_eq_true, Bool.and_eq_true, decide_eq_true_eq] at h2
    have ha := cx_at h (show k < xs.length by omega)
    have hb := cx_at h hk
    unfold key
    rcases h2 with h2 | ⟨h3, h4⟩ <;> omega
  intro d
  induction d with
  | zero => exact step
  | succ d ih =>
    intro k hk
    have h1 := ih k (by omega)
    have h2 := step (k + 1 + d) (by omega)
    have e : k + 1 + (d + 1) = k + 1 + d + 1 := by omega
    rw [e]
    omega
theorem cx_zs {n : Int} {xs : List Int} (h : isCx n xs = true) : xs = zs (xs.map Int.toNat) := by
  unfold zs
  rw [List.map_map]
  conv => lhs; rw [← List.map_id xs]
  apply List.map_congr_left
  intro x hx
  have := isCx_sets h x hx
  show x = ((x.toNat : Nat) : Int)
  omega
theorem cx_ord {n : Int} {xs : List Int} (h : isCx n xs = true) : Ord (xs.map Int.toNat) := by
  unfold Ord
  rw [List.pairwise_iff_getElem]
  intro i j hi hj hij
  rw [List.length_map] at hi hj
  have := cx_keys h (j - (i + 1)) i (by omega)
  rw [show i + 1 + (j - (i + 1)) = j by omega] at this
  have ei : xs.getD i 0 = xs[i] := getD_of (List.getElem?_eq_getElem hi)
  have ej : xs.getD j 0 = xs[j] := getD_of (List.getElem?_eq_getElem hj)
  rw [ei, ej] at this
  simpa using this
theorem ord_lt {l : List Nat} (h : Ord l) {i j : Nat} {a b : Nat} (ha : l[i]? = some a) (hb : l[j]? = some b) (hij : i < j) : key a < key b := by
  obtain ⟨hi, rfl⟩ := List.getElem?_eq_some_iff.1 ha
  obtain ⟨hj, rfl⟩ := List.getElem?_eq_some_iff.1 hb
  exact List.pairwise_iff_getElem.1 h i j hi hj hij
/-- No facet lies in another one. -/
theorem cx_anti {n : Int} {xs : List Int} (h : isCx n xs = true) {a b : Nat} (ha : a ∈ xs.map Int.toNat) (hb : b ∈ xs.map Int.toNat) (hs : sub a b = true) : a = b := by
  obtain ⟨i, hi, he⟩ := List.mem_iff_getElem.1 ha
  obtain ⟨j, hj, hf⟩ := List.mem_iff_getElem.1 hb
  have ha2 : (xs.map Int.toNat)[i]? = some a := List.getElem?_eq_some_iff.2 ⟨hi, he⟩
  have hb2 : (xs.map Int.toNat)[j]? = some b := List.getElem?_eq_some_iff.2 ⟨hj, hf⟩
  rw [List.length_map] at hi hj
  have ha64 : a < 64 := by
    obtain ⟨x, hx, rfl⟩ := List.mem_map.1 ha
    have := isCx_sets h x hx
    omega
  have hb64 : b < 64 := by
    obtain ⟨x, hx, rfl⟩ := List.mem_map.1 hb
    have := isCx_sets h x hx
    omega
  rcases Nat.lt_trichotomy i j with hlt | rfl | hgt
  · have h1 := (isCx_inv h).2.2 j hj
    unfold cxNo at h1
    have h2 := List.all_eq_true.1 h1 xs[i] (by
      have : (xs.take j)[i]? = some xs[i] := by rw [List.getElem?_take, if_pos hlt, List.getElem?_eq_getElem hi]
      exact List.mem_of_getElem? this)
    have ej : xs.getD j 0 = xs[j] := getD_of (List.getElem?_eq_getElem hj)
    rw [ej] at h2
    rw [List.getElem_map] at he hf
    rw [he, hf, hs] at h2
    cases h2
  · rw [ha2] at hb2
    exact Option.some.inj hb2
  · have h3 := ord_lt (cx_ord h) hb2 ha2 hgt
    have h4 := sub_le hs
    have h5 := sub_pcle ha64 hb64 hs
    unfold key at h3
    omega
/-- THE KEY: a complex's row is that of the greatest of its faces. -/
theorem cx_max {n : Int} {xs : List Int} (h : isCx n xs = true) : zs (maxOf (faceP xs)) = xs := by
  have e := cx_zs h
  have hm : maxOf (faceP xs) = xs.map Int.toNat := by
    apply ord_ext (maxOf_ord _) (cx_ord h)
    intro s
    rw [mem_maxOf]
    constructor
    · rintro ⟨hs, hp, hmax⟩
      obtain ⟨x, hx, hsx⟩ := List.any_eq_true.1 hp
      have hx64 := isCx_sets h x hx
      have := hmax x.toNat (by omega) (List.any_eq_true.2 ⟨x, hx, sub_self _⟩) hsx
      exact List.mem_map.2 ⟨x, hx, this⟩
    · intro hs
      obtain ⟨x, hx, rfl⟩ := List.mem_map.1 hs
      have hx64 := isCx_sets h x hx
      refine ⟨by omega, List.any_eq_true.2 ⟨x, hx, sub_self _⟩, fun t ht hpt hst => ?_⟩
      obtain ⟨y, hy, hty⟩ := List.any_eq_true.1 hpt
      have h1 := cx_anti h hs (List.mem_map.2 ⟨y, hy, rfl⟩) (sub_trans2 hst hty)
      rw [← h1] at hty
      exact (sub_anti hst hty).symm
  rw [hm]
  exact e.symm
/-- A row of greatest sets is a complex. -/
theorem max_cx {n : Int} {P : Nat → Bool} (hn : 1 ≤ n ∧ n ≤ 6) (hP : ∀ s, s < 64 → P s = true → isSetB n (s : Int) = true) : isCx n (zs (maxOf P)) = true := by
  have hget : ∀ k, k < (zs (maxOf P)).length → ∃ s, (maxOf P)[k]? = some s ∧ (zs (maxOf P)).getD k 0 = (s : Int) := by
    intro k hk
    have hk2 : k < (maxOf P).length := by simpa [zs] using hk
    refine ⟨(maxOf P)[k], List.getElem?_eq_getElem hk2, ?_⟩
    apply getD_of
    simp [zs, hk2]
  refine isCx_mk hn (fun k hk => ?_) (fun k hk => ?_)
  · obtain ⟨s, hs, he⟩ := hget k hk
    unfold cxFirst
    obtain ⟨h1, h2, _⟩ := mem_maxOf.1 (List.mem_of_getElem? hs)
    rw [he, hP s h1 h2, Bool.true_and]
    by_cases h0 : k = 0
    · simp [h0]
    · obtain ⟨t, ht, hf⟩ := hget (k - 1) (by omega)
      obtain ⟨h3, h4, _⟩ := mem_maxOf.1 (List.mem_of_getElem? ht)
      have h5 := ord_lt (maxOf_ord P) ht hs (by omega)
      rw [hf]
      unfold key at h5
      have : beforeI (t : Int) (s : Int) = true := by
        unfold beforeI
        simp only [Int.toNat_natCast, Bool.or_eq_true, Bool.and_eq_true, decide_eq_true_eq]
        rcases Nat.lt_or_ge (pc t) (pc s) with h | h
        · exact .inl h
        · exact .inr ⟨by omega, by omega⟩
      rw [this, Bool.or_true]
  · obtain ⟨s, hs, he⟩ := hget k hk
    unfold cxNo
    rw [he]
    apply List.all_eq_true.2
    intro a ha
    obtain ⟨i, hi, hie⟩ := List.mem_iff_getElem.1 ha
    have hi2 : i < k := by rw [List.length_take] at hi; omega
    obtain ⟨t, ht, hf⟩ := hget i (by omega)
    have e2 : a = (t : Int) := by
      rw [← hf, ← hie, List.getElem_take]
      exact (getD_of (List.getElem?_eq_getElem (by omega))).symm
    subst e2
    obtain ⟨h1, h2, h3⟩ := mem_maxOf.1 (List.mem_of_getElem? ht)
    obtain ⟨h4, h5, _⟩ := mem_maxOf.1 (List.mem_of_getElem? hs)
    rw [Int.toNat_natCast, Int.toNat_natCast]
    cases hc : sub t s with
    | false => rfl
    | true =>
      have := h3 s h4 h5 hc
      subst this
      have := ord_lt (maxOf_ord P) ht hs hi2
      omega
theorem max_faces {n : Int} {P : Nat → Bool} (hn : 1 ≤ n ∧ n ≤ 6) (hP : ∀ s, s < 64 → P s = true → isSetB n (s : Int) = true) (hd : Down P) : facesOf n (zs (maxOf P)) = listOf P := by
  rw [facesOf_yes (max_cx hn hP)]
  exact listOf_congr fun s hs => faceP_max hd hs
theorem cx_n {n : Int} {xs : List Int} (h : isCx n xs = true) : 1 ≤ n ∧ n ≤ 6 := (isCx_inv h).1
end Go.Proofs.YtmkacjpjcfffmaaDoor
