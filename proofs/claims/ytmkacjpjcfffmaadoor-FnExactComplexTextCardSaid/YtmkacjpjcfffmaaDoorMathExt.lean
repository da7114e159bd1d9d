/- Plain laws: the greatest and the least sets of a family. No program is named here. -/
import Derived.Test.YtmkacjpjcfffmaaDoorMathSet
namespace Go.Proofs.YtmkacjpjcfffmaaDoor

def keepMax (l : List Nat) (s : Nat) : Bool := l.all fun t => !(sub s t && t != s)
def keepMin (l : List Nat) (s : Nat) : Bool := l.all fun t => !(sub t s && t != s)
def maxL (l : List Nat) : List Nat := l.filter (keepMax l)
def minL (l : List Nat) : List Nat := l.filter (keepMin l)
/-- The greatest, the least sets of a family, in order. -/
def maxOf (P : Nat → Bool) : List Nat := maxL (listOf P)
def minOf (P : Nat → Bool) : List Nat := minL (listOf P)
def subPc (s t : Nat) : Bool := !(sub s t && t != s) || decide (pc s < pc t)
theorem subPc_all : ((List.range 64).all fun s => (List.range 64).all fun t => subPc s t) = true := by decide +kernel
theorem sub_pc {s t : Nat} (hs : s < 64) (ht : t < 64) (h : sub s t = true) (hne : t ≠ s) : pc s < pc t := by
  have h1 := List.all_eq_true.1 (List.all_eq_true.1 subPc_all s (List.mem_range.2 hs)) t (List.mem_range.2 ht)
  unfold subPc at h1
  rw [h] at h1
  have : (t != s) = true := by simpa using hne
  rw [this] at h1
  simpa using h1
/-- A list as the order has it. -/
def Ordered (l : List Nat) : Prop := l.Pairwise (fun a b => pc a ≤ pc b ∧ a ≠ b) ∧ ∀ s ∈ l, s < 64
theorem layer_pair (P : Nat → Bool) (k : Nat) : (layer P k).Pairwise (fun a b => pc a ≤ pc b ∧ a ≠ b) := by
  have h1 : (layer P k).Pairwise (fun a b => a ≠ b) := (List.nodup_range (n := 64)).filter _
  refine List.Pairwise.imp_of_mem ?_ h1
  intro a b ha hb hne
  have := (mem_layer.1 ha).2.2
  have := (mem_layer.1 hb).2.2
  exact ⟨by omega, hne⟩
theorem lows_pair (P : Nat → Bool) : ∀ k, (lows P k).Pairwise (fun a b => pc a ≤ pc b ∧ a ≠ b) ∧ ∀ s ∈ lows P k, pc s < k := by
  intro k
  induction k with
  | zero => simp [lows]
  | succ k ih =>
    rw [lows_succ]
    refine ⟨List.pairwise_append.2 ⟨ih.1, layer_pair P k, ?_⟩, ?_⟩
    · intro a ha b hb
      have h1 := ih.2 a ha
      have h2 := (mem_layer.1 hb).2.2
      exact ⟨by omega, fun e => by subst e; omega⟩
    · intro s hs
      rcases List.mem_append.1 hs with h | h
      · have := ih.2 s h
        omega
      · have := (mem_layer.1 h).2.2
        omega
theorem listOf_ordered (P : Nat → Bool) : Ordered (listOf P) := ⟨(lows_pair P 7).1, fun _ hs => (mem_listOf.1 hs).1⟩
theorem parts_at {l : List Nat} {k s : Nat} (h : l[k]? = some s) : l = l.take k ++ s :: l.drop (k + 1) := by
  obtain ⟨hk, he⟩ := List.getElem?_eq_some_iff.1 h
  rw [← he, ← List.drop_eq_getElem_cons hk, List.take_append_drop]
/-- At its place a set is greatest if no later one holds it. -/
theorem keepMax_at {l : List Nat} (ho : Ordered l) {k s : Nat} (h : l[k]? = some s) : keepMax l s = !((l.drop (k + 1)).any (sub s)) := by
  have hp := parts_at h
  have hs : s < 64 := ho.2 s (List.mem_of_getElem? h)
  have hpw := ho.1
  rw [hp] at hpw
  obtain ⟨_, h2, h3⟩ := List.pairwise_append.1 hpw
  obtain ⟨h4, _⟩ := List.pairwise_cons.1 h2
  rw [Bool.eq_iff_iff]
  simp only [keepMax, List.all_eq_true, Bool.not_eq_true', Bool.and_eq_false_iff, List.any_eq_false]
  constructor
  · intro hall t ht hst
    have hm : t ∈ l := List.mem_of_mem_drop ht
    rcases hall t hm with hf | hf
    · rw [hst] at hf
      cases hf
    · have := (h4 t ht).2
      simp at hf
      exact this hf.symm
  · intro hno t ht
    rw [hp] at ht
    rcases List.mem_append.1 ht with hm | hm
    · left
      have h5 := h3 t hm s (by simp)
      cases hc : sub s t with
      | false => rfl
      | true =>
        have := sub_pc hs (ho.2 t (List.mem_of_mem_take hm)) hc h5.2
        omega
    · rcases List.mem_cons.1 hm with rfl | hm
      · right; simp
      · left
        cases hc : sub s t with
        | false => rfl
        | true => exact absurd hc (hno t hm)
/-- The greatest sets among the first k. -/
def maxTo (l : List Nat) (k : Nat) : List Nat := (l.take k).filter (keepMax l)
theorem maxTo_yes {l : List Nat} (ho : Ordered l) {k s : Nat} (h : l[k]? = some s) (hn : (l.drop (k + 1)).any (sub s) = false) : maxTo l (k + 1) = maxTo l k ++ [s] := by
  have h1 := keepMax_at ho h
  rw [hn] at h1
  have h2 : l.take (k + 1) = l.take k ++ [s] := by rw [List.take_add_one, h]; rfl
  simp [maxTo, h2, List.filter_append, h1]
theorem maxTo_no {l : List Nat} (ho : Ordered l) {k s : Nat} (h : l[k]? = some s) (hn : (l.drop (k + 1)).any (sub s) = true) : maxTo l (k + 1) = maxTo l k := by
  have h1 := keepMax_at ho h
  rw [hn] at h1
  have h2 : l.take (k + 1) = l.take k ++ [s] := by rw [List.take_add_one, h]; rfl
  simp [maxTo, h2, List.filter_append, h1]
theorem maxTo_len (l : List Nat) (k : Nat) : (maxTo l k).length ≤ k := Nat.le_trans (List.length_filter_le _ _) (List.length_take_le _ _)
theorem maxTo_all (l : List Nat) (k : Nat) (h : l.length ≤ k) : maxTo l k = maxL l := by
  unfold maxTo maxL
  rw [List.take_of_length_le h]
/-- The least sets among the first k. -/
def minTo (l : List Nat) (k : Nat) : List Nat := (l.take k).filter (keepMin l)
/-- A list of sets that is not empty has one of least size. -/
theorem least_pc : ∀ (l : List Nat), l ≠ [] → ∃ t ∈ l, ∀ u ∈ l, pc t ≤ pc u := by
  intro l
  induction l with
  | nil => intro h; exact absurd rfl h
  | cons a l ih =>
    intro _
    by_cases hl : l = []
    · subst hl
      exact ⟨a, by simp, by simp⟩
    · obtain ⟨t, ht, hm⟩ := ih hl
      by_cases hc : pc a ≤ pc t
      · refine ⟨a, by simp, ?_⟩
        intro u hu
        rcases List.mem_cons.1 hu with rfl | hu
        · exact Nat.le_refl _
        · exact Nat.le_trans hc (hm u hu)
      · refine ⟨t, by simp [ht], ?_⟩
        intro u hu
        rcases List.mem_cons.1 hu with rfl | hu
        · omega
        · exact hm u hu
theorem sub_trans {a b c : Nat} (h : sub a b = true) (k : sub b c = true) : sub a c = true := by
  have h1 : a &&& b = a := by simpa [sub] using h
  have k1 : b &&& c = b := by simpa [sub] using k
  have : a &&& c = a := by
    rw [← h1, Nat.and_assoc, k1]
  simp [sub, this]
/-- At its place a set is least if none of the least before it lies in it. -/
theorem keepMin_at {l : List Nat} (ho : Ordered l) {k s : Nat} (h : l[k]? = some s) : keepMin l s = !((minTo l k).any (fun t => sub t s)) := by
  have hp := parts_at h
  have hs : s < 64 := ho.2 s (List.mem_of_getElem? h)
  have hpw := ho.1
  rw [hp] at hpw
  obtain ⟨_, h2, h3⟩ := List.pairwise_append.1 hpw
  obtain ⟨h4, _⟩ := List.pairwise_cons.1 h2
  rw [Bool.eq_iff_iff]
  constructor
  · intro hk
    rw [Bool.not_eq_true', List.any_eq_false]
    intro t ht hst
    have hm := (List.mem_filter.1 ht).1
    have hne := (h3 t hm s (by simp)).2
    have := List.all_eq_true.1 hk t (List.mem_of_mem_take hm)
    rw [hst] at this
    have h5 : (t != s) = true := by simpa using hne
    rw [h5] at this
    cases this
  · intro hno
    rw [Bool.not_eq_true', List.any_eq_false] at hno
    apply List.all_eq_true.2
    intro t ht
    cases hc : sub t s && t != s with
    | false => rfl
    | true =>
      exfalso
      obtain ⟨c1, c2⟩ := Bool.and_eq_true_iff.1 hc
      have hne : t ≠ s := by simpa using c2
      -- the least of those that lie in s, s itself apart
      obtain ⟨u, hu, hmin⟩ := least_pc (l.filter fun t => sub t s && t != s) (fun e => by
        have : t ∈ l.filter (fun t => sub t s && t != s) := List.mem_filter.2 ⟨ht, hc⟩
        rw [e] at this
        cases this)
      obtain ⟨hul, huc⟩ := List.mem_filter.1 hu
      obtain ⟨u1, u2⟩ := Bool.and_eq_true_iff.1 huc
      have hus : u ≠ s := by simpa using u2
      have hlt := sub_pc (ho.2 u hul) hs u1 (fun e => hus e.symm)
      have hkeep : keepMin l u = true := by
        apply List.all_eq_true.2
        intro x hx
        cases hx2 : sub x u && x != u with
        | false => rfl
        | true =>
          exfalso
          obtain ⟨x1, x3⟩ := Bool.and_eq_true_iff.1 hx2
          have hxu : x ≠ u := by simpa using x3
          have hxlt := sub_pc (ho.2 x hx) (ho.2 u hul) x1 (fun e => hxu e.symm)
          have hxs : sub x s = true := sub_trans x1 u1
          have hxne : x ≠ s := fun e => by subst e; omega
          have := hmin x (List.mem_filter.2 ⟨hx, by rw [hxs]; simpa using hxne⟩)
          omega
      have hut : u ∈ l.take k := by
        rw [hp] at hul
        rcases List.mem_append.1 hul with hm | hm
        · exact hm
        · rcases List.mem_cons.1 hm with rfl | hm
          · exact absurd rfl hus
          · have := (h4 u hm).1
            omega
      exact hno u (List.mem_filter.2 ⟨hut, hkeep⟩) u1
theorem minTo_yes {l : List Nat} (ho : Ordered l) {k s : Nat} (h : l[k]? = some s) (hn : (minTo l k).any (fun t => sub t s) = false) : minTo l (k + 1) = minTo l k ++ [s] := by
  have h1 := keepMin_at ho h
  rw [hn] at h1
  have h2 : l.take (k + 1) = l.take k ++ [s] := by rw [List.take_add_one, h]; rfl
  unfold minTo
  rw [h2, List.filter_append]
  simp [h1]
theorem minTo_no {l : List Nat} (ho : Ordered l) {k s : Nat} (h : l[k]? = some s) (hn : (minTo l k).any (fun t => sub t s) = true) : minTo l (k + 1) = minTo l k := by
  have h1 := keepMin_at ho h
  rw [hn] at h1
  have h2 : l.take (k + 1) = l.take k ++ [s] := by rw [List.take_add_one, h]; rfl
  unfold minTo
  rw [h2, List.filter_append]
  simp [h1]
theorem minTo_len (l : List Nat) (k : Nat) : (minTo l k).length ≤ k := Nat.le_trans (List.length_filter_le _ _) (List.length_take_le _ _)
theorem minTo_all (l : List Nat) (k : Nat) (h : l.length ≤ k) : minTo l k = minL l := by
  unfold minTo minL
  rw [List.take_of_length_le h]
theorem maxL_len (l : List Nat) : (maxL l).length ≤ l.length := List.length_filter_le _ _
theorem minL_len (l : List Nat) : (minL l).length ≤ l.length := List.length_filter_le _ _
theorem maxOf_len (P : Nat → Bool) : (maxOf P).length ≤ 448 := Nat.le_trans (maxL_len _) (listOf_len P)
theorem minOf_len (P : Nat → Bool) : (minOf P).length ≤ 448 := Nat.le_trans (minL_len _) (listOf_len P)
theorem maxOf_congr {P Q : Nat → Bool} (h : ∀ s, s < 64 → P s = Q s) : maxOf P = maxOf Q := by unfold maxOf; rw [listOf_congr h]
theorem minOf_congr {P Q : Nat → Bool} (h : ∀ s, s < 64 → P s = Q s) : minOf P = minOf Q := by unfold minOf; rw [listOf_congr h]
end Go.Proofs.YtmkacjpjcfffmaaDoor
