/- Plain laws: faces counted by size. No program is named here. -/
import Derived.Test.YtmkacjpjcfffmaaMathFace
namespace Go.Proofs.Ytmkacjpjcfffmaa

/-- The sets of k points in a list. -/
def sized (k : Int) (l : List Nat) : List Nat := l.filter (fun s => decide ((pc s : Int) = k))
theorem sized_yes {k : Int} {l : List Nat} {s : Nat} (h : (pc s : Int) = k) : sized k (l ++ [s]) = sized k l ++ [s] := by simp [sized, h]
theorem sized_no {k : Int} {l : List Nat} {s : Nat} (h : ¬ (pc s : Int) = k) : sized k (l ++ [s]) = sized k l := by simp [sized, h]
theorem sized_len (k : Int) (l : List Nat) : (sized k l).length ≤ l.length := List.length_filter_le _ _
theorem sized_neg {k : Int} (h : k < 0) (l : List Nat) : sized k l = [] := by
  unfold sized
  rw [List.filter_eq_nil_iff]
  intro s _
  simp
  omega
theorem layer_and (P : Nat → Bool) (k j : Nat) : layer (fun s => P s && decide ((pc s : Int) = (k : Int))) j = if j = k then layer P k else [] := by
  by_cases h : j = k
  · subst h
    rw [if_pos rfl]
    unfold layer
    apply List.filter_congr
    intro s _
    by_cases hp : pc s = j
    · simp [hp]
    · have : ¬ (pc s : Int) = (j : Int) := by omega
      simp [hp, this]
  · rw [if_neg h]
    unfold layer
    rw [List.filter_eq_nil_iff]
    intro s _
    by_cases hp : pc s = j
    · have : ¬ (pc s : Int) = (k : Int) := by omega
      simp [this]
    · simp [hp]
theorem flatMap_one {α : Type} (X : List α) (k : Nat) : ∀ n, (List.range n).flatMap (fun j => if j = k then X else []) = if k < n then X else []
  | 0 => by simp
  | n + 1 => by
    rw [List.range_succ, List.flatMap_append, flatMap_one X k n]
    rcases Nat.lt_trichotomy k n with h | h | h
    · rw [if_pos h, if_pos (by omega)]
      simp [show ¬ n = k by omega]
    · subst h
      simp
    · rw [if_neg (by omega), if_neg (by omega)]
      simp [show ¬ n = k by omega]
theorem layer_six (P : Nat → Bool) {k : Nat} (h : 6 < k) : layer P k = [] := by
  unfold layer
  rw [List.filter_eq_nil_iff]
  intro s hs
  have := pc_le6 s (List.mem_range.1 hs)
  simp
  intro _
  omega
theorem sized_listOf (P : Nat → Bool) (k : Nat) : sized (k : Int) (listOf P) = layer P k := by
  unfold sized
  rw [listOf_filter]
  unfold listOf
  rw [show (fun j => layer (fun s => P s && decide ((pc s : Int) = (k : Int))) j) = fun j => if j = k then layer P k else [] from funext fun j => layer_and P k j, flatMap_one]
  by_cases h : k < 7
  · rw [if_pos h]
  · rw [if_neg h, layer_six P (by omega)]
theorem layer_above {P : Nat → Bool} {k : Nat} (h : topOf P < (k : Int)) : layer P k = [] := by
  unfold layer
  rw [List.filter_eq_nil_iff]
  intro s hs hp
  rw [Bool.and_eq_true] at hp
  have h1 := (topTo_spec P 64).1 s (List.mem_range.1 hs) hp.1
  have h2 : pc s = k := by simpa using hp.2
  unfold topOf at h
  omega

/-! ### the counts -/
def cntM (l : List Nat) (m : Nat) : List Int := (List.range m).map fun (j : Nat) => ((sized (j : Int) l).length : Int)
theorem cntM_len (l : List Nat) (m : Nat) : (cntM l m).length = m := by simp [cntM]
theorem cntM_nil : cntM [] 0 = [] := rfl
theorem cntM_get (l : List Nat) {m j : Nat} (h : j < m) : (cntM l m)[j]? = some ((sized (j : Int) l).length : Int) := by simp [cntM, h]
/-- One more than the greatest size. -/
def mxL : List Nat → Nat := List.foldl (fun m s => max m (pc s + 1)) 0
theorem mxL_snoc (l : List Nat) (s : Nat) : mxL (l ++ [s]) = max (mxL l) (pc s + 1) := by simp [mxL, List.foldl_append]
theorem foldl_mx (l : List Nat) : ∀ m, m ≤ l.foldl (fun m s => max m (pc s + 1)) m ∧ (∀ s ∈ l, pc s < l.foldl (fun m s => max m (pc s + 1)) m) ∧ (l.foldl (fun m s => max m (pc s + 1)) m = m ∨ ∃ s ∈ l, l.foldl (fun m s => max m (pc s + 1)) m = pc s + 1) := by
  induction l with
  | nil => intro m; exact ⟨Nat.le_refl _, by simp, .inl rfl⟩
  | cons a l ih =>
    intro m
    obtain ⟨h1, h2, h3⟩ := ih (max m (pc a + 1))
    rw [List.foldl_cons]
    refine ⟨by omega, ?_, ?_⟩
    · intro s hs
      rcases List.mem_cons.1 hs with rfl | hs
      · omega
      · exact h2 s hs
    · rcases h3 with h3 | ⟨s, hs, h3⟩
      · rcases Nat.le_total (pc a + 1) m with h | h
        · left; omega
        · right; exact ⟨a, by simp, by omega⟩
      · right; exact ⟨s, by simp [hs], h3⟩
theorem mxL_lt (l : List Nat) : ∀ s ∈ l, pc s < mxL l := (foldl_mx l 0).2.1
theorem mxL_top (P : Nat → Bool) : (mxL (listOf P) : Int) = topOf P + 1 := by
  obtain ⟨_, h2, h3⟩ := foldl_mx (listOf P) 0
  obtain ⟨h4, h5⟩ := topTo_spec P 64
  have e : mxL (listOf P) = (listOf P).foldl (fun m s => max m (pc s + 1)) 0 := rfl
  rw [← e] at h2 h3
  unfold topOf
  rcases h5 with h5 | ⟨s, hs, hp, h5⟩
  · rcases h3 with h3 | ⟨t, ht, h3⟩
    · omega
    · obtain ⟨h6, h7⟩ := mem_listOf.1 ht
      have := h4 t h6 h7
      omega
  · have h8 := h2 s (mem_listOf.2 ⟨hs, hp⟩)
    rcases h3 with h3 | ⟨t, ht, h3⟩
    · omega
    · obtain ⟨h6, h7⟩ := mem_listOf.1 ht
      have := h4 t h6 h7
      omega
theorem mxL_le {l : List Nat} (h : ∀ s ∈ l, s < 64) : mxL l ≤ 7 := by
  rcases (foldl_mx l 0).2.2 with h3 | ⟨t, ht, h3⟩
  · have e : mxL l = l.foldl (fun m s => max m (pc s + 1)) 0 := rfl
    omega
  · have e : mxL l = l.foldl (fun m s => max m (pc s + 1)) 0 := rfl
    have := pc_le6 t (h t ht)
    omega
theorem sized_none {l : List Nat} {m : Nat} (h : ∀ s ∈ l, pc s < m) : sized (m : Int) l = [] := by
  unfold sized
  rw [List.filter_eq_nil_iff]
  intro s hs
  have := h s hs
  simp
  omega
theorem cntM_more {l : List Nat} {m : Nat} (h : ∀ s ∈ l, pc s < m) : cntM l (m + 1) = cntM l m ++ [0] := by
  unfold cntM
  rw [List.range_succ, List.map_append, List.map_singleton, sized_none h]
  rfl
theorem cntM_set {l : List Nat} {m s : Nat} (h : pc s < m) : (cntM l m).set (pc s) (((sized (pc s : Int) l).length : Int) + 1) = cntM (l ++ [s]) m := by
  apply List.ext_getElem?
  intro j
  by_cases hj : j < m
  · rw [cntM_get _ hj]
    by_cases e : j = pc s
    · subst e
      rw [List.getElem?_set_self (by rw [cntM_len]; exact h), sized_yes rfl]
      simp
    · rw [List.getElem?_set_ne (fun h => e h.symm), cntM_get _ hj, sized_no (by omega)]
  · rw [List.getElem?_eq_none (by rw [List.length_set, cntM_len]; omega), List.getElem?_eq_none (by rw [cntM_len]; omega)]
/-- The counts of a family. -/
def countsOf (P : Nat → Bool) : List Int := (List.range (topOf P + 1).toNat).map fun j => ((layer P j).length : Int)
theorem countsOf_eq (P : Nat → Bool) : cntM (listOf P) (mxL (listOf P)) = countsOf P := by
  have h := mxL_top P
  unfold cntM countsOf
  rw [show (topOf P + 1).toNat = mxL (listOf P) by omega]
  apply List.map_congr_left
  intro j _
  rw [sized_listOf]
theorem countsOf_len (P : Nat → Bool) : (countsOf P).length = (topOf P + 1).toNat := by simp [countsOf]
theorem countsOf_get (P : Nat → Bool) {j : Nat} (h : j < (topOf P + 1).toNat) : (countsOf P)[j]? = some ((layer P j).length : Int) := by simp [countsOf, h]
def cntTo (P : Nat → Bool) (k : Nat) : List Int := (List.range k).map fun j => ((layer P j).length : Int)
theorem cntTo_snoc (P : Nat → Bool) (k : Nat) : cntTo P (k + 1) = cntTo P k ++ [((layer P k).length : Int)] := by simp [cntTo, List.range_succ]
theorem cntTo_len (P : Nat → Bool) (k : Nat) : (cntTo P k).length = k := by simp [cntTo]

/-! ### the signed sum -/
def sgnP (s : Nat) : Int := 2 * ((pc s % 2 : Nat) : Int) - 1
def eulL (l : List Nat) : Int := (l.map sgnP).sum
theorem eulL_snoc (l : List Nat) (s : Nat) : eulL (l ++ [s]) = eulL l + sgnP s := by simp [eulL]
theorem sgnP_bd (s : Nat) : -1 ≤ sgnP s ∧ sgnP s ≤ 1 := by
  unfold sgnP
  omega
theorem eulL_bd (l : List Nat) : -(l.length : Int) ≤ eulL l ∧ eulL l ≤ (l.length : Int) := by
  induction l with
  | nil => simp [eulL]
  | cons a l ih =>
    have := sgnP_bd a
    simp only [eulL, List.map_cons, List.sum_cons, List.length_cons] at *
    omega
/-- The counts' signed sum, of the first k. -/
def eulTo (f : Nat → Int) : Nat → Int
  | 0 => 0
  | k + 1 => if k % 2 = 1 then eulTo f k + f k else eulTo f k - f k
theorem eulL_same {l : List Nat} {k : Nat} (h : ∀ s ∈ l, pc s = k) : eulL l = if k % 2 = 1 then (l.length : Int) else -(l.length : Int) := by
  induction l with
  | nil => simp [eulL]
  | cons a l ih =>
    have h1 := ih (fun s hs => h s (by simp [hs]))
    have h2 : sgnP a = 2 * ((k % 2 : Nat) : Int) - 1 := by unfold sgnP; rw [h a (by simp)]
    simp only [eulL, List.map_cons, List.sum_cons, List.length_cons] at *
    rw [h1, h2]
    split <;> omega
theorem eulL_append (l r : List Nat) : eulL (l ++ r) = eulL l + eulL r := by simp [eulL]
theorem eulL_lows (P : Nat → Bool) : ∀ k, eulL (lows P k) = eulTo (fun j => ((layer P j).length : Int)) k
  | 0 => rfl
  | k + 1 => by
    rw [lows_succ, eulL_append, eulL_lows P k, eulL_same (k := k) (fun s hs => (mem_layer.1 hs).2.2)]
    show _ = (if k % 2 = 1 then eulTo (fun j => ((layer P j).length : Int)) k + ((layer P k).length : Int) else eulTo (fun j => ((layer P j).length : Int)) k - ((layer P k).length : Int))
    by_cases h : k % 2 = 1
    · rw [if_pos h, if_pos h]
    · rw [if_neg h, if_neg h]
      omega
theorem eulTo_more {f : Nat → Int} {m : Nat} (h : ∀ j, m ≤ j → f j = 0) : ∀ d, eulTo f (m + d) = eulTo f m
  | 0 => rfl
  | d + 1 => by
    show (if (m + d) % 2 = 1 then eulTo f (m + d) + f (m + d) else eulTo f (m + d) - f (m + d)) = _
    rw [eulTo_more h d, h (m + d) (by omega)]
    split <;> omega
theorem eul_eq (P : Nat → Bool) (hb : -1 ≤ topOf P ∧ topOf P ≤ 6) : eulL (listOf P) = eulTo (fun j => ((layer P j).length : Int)) (topOf P + 1).toNat := by
  rw [← lows_all, eulL_lows]
  obtain ⟨d, hd⟩ : ∃ d, 7 = (topOf P + 1).toNat + d := ⟨7 - (topOf P + 1).toNat, by omega⟩
  rw [hd]
  apply eulTo_more
  intro j hj
  rw [layer_above (by omega)]
  rfl
theorem eulTo_bd (P : Nat → Bool) : ∀ k : Nat, -(64 * (k : Int)) ≤ eulTo (fun j => ((layer P j).length : Int)) k ∧ eulTo (fun j => ((layer P j).length : Int)) k ≤ 64 * (k : Int)
  | 0 => by simp [eulTo]
  | k + 1 => by
    have h1 := eulTo_bd P k
    have h2 := layer_len P k
    show _ ≤ (if k % 2 = 1 then eulTo (fun j => ((layer P j).length : Int)) k + ((layer P k).length : Int) else eulTo (fun j => ((layer P j).length : Int)) k - ((layer P k).length : Int)) ∧ (if k % 2 = 1 then eulTo (fun j => ((layer P j).length : Int)) k + ((layer P k).length : Int) else eulTo (fun j => ((layer P j).length : Int)) k - ((layer P k).length : Int)) ≤ _
    split <;> omega
def eulerOf (n : Int) (xs : List Int) : Int := if isCx n xs then eulTo (fun j => ((layer (faceP xs) j).length : Int)) (topOf (faceP xs) + 1).toNat else 0
def faceCounts (n : Int) (xs : List Int) : List Int := if isCx n xs then countsOf (faceP xs) else []
def facesOfSize (n : Int) (xs : List Int) (k : Int) : List Nat := if isCx n xs then (if 0 ≤ k then layer (faceP xs) k.toNat else []) else []
end Go.Proofs.Ytmkacjpjcfffmaa
