/- Plain laws: when a list of facets is a complex. No program is named here. -/
import Derived.Test.YtmkacjpjcfffmaaDoorW4
import Derived.Test.YtmkacjpjcfffmaaDoorMathExt
namespace Go.Proofs.YtmkacjpjcfffmaaDoor

/-- The facet at place k is a set of n points and comes behind the one before it. -/
def cxFirst (n : Int) (xs : List Int) (k : Nat) : Bool := isSetB n (xs.getD k 0) && (k == 0 || beforeI (xs.getD (k - 1) 0) (xs.getD k 0))
/-- None of the facets before the place k lies in the one at k. -/
def cxNo (xs : List Int) (k : Nat) : Bool := (xs.take k).all (fun a => !sub a.toNat (xs.getD k 0).toNat)
/-- The facet at place i lies in a later one. -/
def cxRow (xs : List Int) (i : Nat) : Bool := (xs.drop (i + 1)).any (fun t => sub (xs.getD i 0).toNat t.toNat)
def isCx (n : Int) (xs : List Int) : Bool := decide (1 ≤ n ∧ n ≤ 6) && (List.range xs.length).all (fun k => cxFirst n xs k) && (List.range xs.length).all (fun k => cxNo xs k)
theorem isCx_n {n : Int} {xs : List Int} (h : ¬ (1 ≤ n ∧ n ≤ 6)) : isCx n xs = false := by unfold isCx; rw [decide_eq_false h]; rfl
theorem isCx_first {n : Int} {xs : List Int} {k : Nat} (hk : k < xs.length) (h : cxFirst n xs k = false) : isCx n xs = false := by
  have : (List.range xs.length).all (fun k => cxFirst n xs k) = false := by
    cases hc : (List.range xs.length).all (fun k => cxFirst n xs k) with
    | false => rfl
    | true =>
      have := List.all_eq_true.1 hc k (List.mem_range.2 hk)
      rw [h] at this
      cases this
  unfold isCx
  rw [this]
  simp
theorem isCx_no {n : Int} {xs : List Int} {k : Nat} (hk : k < xs.length) (h : cxNo xs k = false) : isCx n xs = false := by
  have : (List.range xs.length).all (fun k => cxNo xs k) = false := by
    cases hc : (List.range xs.length).all (fun k => cxNo xs k) with
    | false => rfl
    | true =>
      have := List.all_eq_true.1 hc k (List.mem_range.2 hk)
      rw [h] at this
      cases this
  unfold isCx
  rw [this]
  simp
theorem isCx_mk {n : Int} {xs : List Int} (hn : 1 ≤ n ∧ n ≤ 6) (h1 : ∀ k, k < xs.length → cxFirst n xs k = true) (h2 : ∀ k, k < xs.length → cxNo xs k = true) : isCx n xs = true := by
  unfold isCx
  rw [decide_eq_true hn, List.all_eq_true.2 (fun k hk => h1 k (List.mem_range.1 hk)), List.all_eq_true.2 (fun k hk => h2 k (List.mem_range.1 hk))]
  rfl
theorem isCx_inv {n : Int} {xs : List Int} (h : isCx n xs = true) : (1 ≤ n ∧ n ≤ 6) ∧ (∀ k, k < xs.length → cxFirst n xs k = true) ∧ (∀ k, k < xs.length → cxNo xs k = true) := by
  unfold isCx at h
  rw [Bool.and_eq_true, Bool.and_eq_true] at h
  exact ⟨of_decide_eq_true h.1.1, fun k hk => List.all_eq_true.1 h.1.2 k (List.mem_range.2 hk), fun k hk => List.all_eq_true.1 h.2 k (List.mem_range.2 hk)⟩
theorem getD_of {xs : List Int} {k : Nat} {x : Int} (h : xs[k]? = some x) : xs.getD k 0 = x := by simp [List.getD, h]
theorem cxFirst_set {n : Int} {xs : List Int} {k : Nat} {x : Int} (h : xs[k]? = some x) (hc : cxFirst n xs k = true) : isSetB n x = true := by
  unfold cxFirst at hc
  rw [getD_of h, Bool.and_eq_true] at hc
  exact hc.1
theorem isSetB_64 {n x : Int} (h : isSetB n x = true) : 0 ≤ x ∧ x < 64 := by
  obtain ⟨h0, h1, h2, h3⟩ := isSetB_yes h
  have := (two_pow_le h0 h1).2
  omega
theorem isCx_sets {n : Int} {xs : List Int} (h : isCx n xs = true) : ∀ x ∈ xs, 0 ≤ x ∧ x < 64 := by
  intro x hx
  obtain ⟨k, hk, he⟩ := List.mem_iff_getElem.1 hx
  exact isSetB_64 (cxFirst_set (List.getElem?_eq_some_iff.2 ⟨hk, he⟩) ((isCx_inv h).2.1 k hk))
theorem isCx_fit {n : Int} {xs : List Int} (h : isCx n xs = true) : ∀ x ∈ xs, isSetB n x = true := by
  intro x hx
  obtain ⟨k, hk, he⟩ := List.mem_iff_getElem.1 hx
  exact cxFirst_set (List.getElem?_eq_some_iff.2 ⟨hk, he⟩) ((isCx_inv h).2.1 k hk)
/-- Rows and columns say the same. -/
theorem rows_no {xs : List Int} (h : ∀ i, i < xs.length → cxRow xs i = false) (k : Nat) (hk : k < xs.length) : cxNo xs k = true := by
  unfold cxNo
  apply List.all_eq_true.2
  intro a ha
  obtain ⟨i, hi, he⟩ := List.mem_iff_getElem.1 ha
  rw [List.length_take] at hi
  have hik : i < k := by omega
  have hx : xs[i]? = some a := by
    rw [List.getElem_take] at he
    exact List.getElem?_eq_some_iff.2 ⟨by omega, he⟩
  have hr := h i (by omega)
  unfold cxRow at hr
  rw [List.any_eq_false] at hr
  have := hr (xs.getD k 0) (by
    have hm : (xs.drop (i + 1))[k - (i + 1)]? = xs[k]? := by
      rw [List.getElem?_drop]
      congr 1
      omega
    rw [List.getElem?_eq_getElem hk] at hm
    have e : xs.getD k 0 = xs[k] := getD_of (List.getElem?_eq_getElem hk)
    rw [e]
    exact List.mem_of_getElem? hm)
  rw [getD_of hx] at this
  simpa using this
theorem row_no {n : Int} {xs : List Int} {i : Nat} (hi : i < xs.length) (h : cxRow xs i = true) : isCx n xs = false := by
  unfold cxRow at h
  obtain ⟨t, ht, hs⟩ := List.any_eq_true.1 h
  obtain ⟨j, hj, he⟩ := List.mem_iff_getElem.1 ht
  rw [List.length_drop] at hj
  have hk : i + 1 + j < xs.length := by omega
  have hx : xs[i + 1 + j]? = some t := by
    rw [← he, List.getElem_drop]
    exact List.getElem?_eq_getElem hk
  refine isCx_no hk ?_
  cases hc : cxNo xs (i + 1 + j) with
  | false => rfl
  | true =>
    unfold cxNo at hc
    have := List.all_eq_true.1 hc (xs.getD i 0) (by
      have e : xs.getD i 0 = xs[i] := getD_of (List.getElem?_eq_getElem hi)
      rw [e]
      have hm : (xs.take (i + 1 + j))[i]? = some xs[i] := by
        rw [List.getElem?_take, if_pos (by omega)]
        exact List.getElem?_eq_getElem hi
      exact List.mem_of_getElem? hm)
    rw [getD_of hx, hs] at this
    cases this
theorem cxRow_last {xs : List Int} {i : Nat} (h : xs.length ≤ i + 1) : cxRow xs i = false := by
  unfold cxRow
  rw [List.drop_of_length_le h]
  rfl
end Go.Proofs.YtmkacjpjcfffmaaDoor
