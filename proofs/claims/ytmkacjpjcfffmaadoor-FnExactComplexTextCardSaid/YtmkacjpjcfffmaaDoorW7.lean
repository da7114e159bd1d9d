/- Walks: families of sets, in the reference. -/
import Derived.Test.YtmkacjpjcfffmaaDoorW4
import Derived.Test.YtmkacjpjcfffmaaDoorMathExt
namespace Go.Proofs.YtmkacjpjcfffmaaDoor
open Go.RowKit

/-- 64 flags. -/
def flags (f : Nat → Bool) : List Value := (List.range 64).map (fun s => Value.bool (f s))
theorem flags_len (f : Nat → Bool) : (flags f).length = 64 := by simp [flags]
theorem flags_get (f : Nat → Bool) {s : Nat} (h : s < 64) : (flags f)[s]? = some (.bool (f s)) := by simp [flags, h]
theorem flags_set (f : Nat → Bool) (m : Nat) : (flags f).set m (.bool true) = flags (fun s => f s || s == m) := by
  apply List.ext_getElem?
  intro i
  by_cases hi : i < 64
  · rw [List.getElem?_set]
    by_cases hm : m = i
    · subst hm
      rw [if_pos rfl, if_pos (by rw [flags_len]; exact hi), flags_get _ hi]
      simp
    · rw [if_neg hm, flags_get _ hi, flags_get _ hi]
      have : (i == m) = false := by simp; omega
      simp [this]
  · rw [List.getElem?_eq_none (by rw [List.length_set, flags_len]; omega), List.getElem?_eq_none (by rw [flags_len]; omega)]
theorem flags_congr {f g : Nat → Bool} (h : ∀ s, s < 64 → f s = g s) : flags f = flags g := by
  unfold flags
  apply List.map_congr_left
  intro s hs
  rw [h s (List.mem_range.1 hs)]
/-- 64 times false. -/
def falses : Array Value := Array.replicate 64 (.bool false)
theorem falses_eq : falses.toList = flags (fun _ => false) := by kernel_rfl

/-- What l2Extreme gives. -/
def extOf (P : Nat → Bool) (g : Bool) : List Nat := if g then maxOf P else minOf P
def keepB (l : List Nat) (g : Bool) (s : Nat) : Bool := if g then keepMax l s else keepMin l s
/-- t speaks against s. -/
def against (g : Bool) (s t : Nat) : Bool := t != s && (if g then sub s t else sub t s)
theorem keepB_eq (l : List Nat) (g : Bool) (s : Nat) : keepB l g s = !(l.any (against g s)) := by
  cases g
  · rw [Bool.eq_iff_iff]
    simp only [keepB, keepMin, against, Bool.false_eq_true, if_false, List.all_eq_true, Bool.not_eq_true', List.any_eq_false, Bool.and_eq_true, not_and, Bool.and_eq_false_iff]
    constructor
    · intro h t ht h1 h2
      rcases h t ht with h3 | h3
      · rw [h2] at h3; cases h3
      · rw [h1] at h3; cases h3
    · intro h t ht
      cases h1 : sub t s
      · exact .inl rfl
      · right
        cases h2 : t != s
        · rfl
        · exact absurd h1 (h t ht h2)
  · rw [Bool.eq_iff_iff]
    simp only [keepB, keepMax, against, if_true, List.all_eq_true, Bool.not_eq_true', List.any_eq_false, Bool.and_eq_true, not_and, Bool.and_eq_false_iff]
    constructor
    · intro h t ht h1 h2
      rcases h t ht with h3 | h3
      · rw [h2] at h3; cases h3
      · rw [h1] at h3; cases h3
    · intro h t ht
      cases h1 : sub s t
      · exact .inl rfl
      · right
        cases h2 : t != s
        · rfl
        · exact absurd h1 (h t ht h2)
def extTo (l : List Nat) (g : Bool) (k : Nat) : List Nat := (l.take k).filter (keepB l g)
theorem extTo_yes {l : List Nat} {g : Bool} {k s : Nat} (h : l[k]? = some s) (hn : l.any (against g s) = false) : extTo l g (k + 1) = extTo l g k ++ [s] := by
  unfold extTo
  rw [take_snoc _ _ _ h, List.filter_append]
  simp [keepB_eq, hn]
theorem extTo_no {l : List Nat} {g : Bool} {k s : Nat} (h : l[k]? = some s) (hn : l.any (against g s) = true) : extTo l g (k + 1) = extTo l g k := by
  unfold extTo
  rw [take_snoc _ _ _ h, List.filter_append]
  simp [keepB_eq, hn]
theorem extTo_len (l : List Nat) (g : Bool) (k : Nat) : (extTo l g k).length ≤ k := Nat.le_trans (List.length_filter_le _ _) (List.length_take_le _ _)
theorem extTo_all (P : Nat → Bool) (g : Bool) (k : Nat) (h : (listOf P).length ≤ k) : extTo (listOf P) g k = extOf P g := by
  unfold extTo
  rw [List.take_of_length_le h]
  cases g <;> rfl
theorem any_snoc7 (l : List Nat) (f : Nat → Bool) (k t : Nat) (h : l[k]? = some t) : (l.take (k + 1)).any f = ((l.take k).any f || f t) := by
  rw [take_snoc _ _ _ h, List.any_append]
  simp
def andBit (s t : Nat) : Bool := ((bits BinOp.and IntKind.i64 (s : Int) (t : Int) == (s : Int)) == sub s t) && ((bits BinOp.and IntKind.i64 (s : Int) (t : Int) == (t : Int)) == sub t s)
theorem andBit_all : ((List.range 64).all fun s => (List.range 64).all fun t => andBit s t) = true := by decide +kernel
theorem and_bit {s t : Nat} (hs : s < 64) (ht : t < 64) : (bits BinOp.and IntKind.i64 (s : Int) (t : Int) == (s : Int)) = sub s t ∧ (bits BinOp.and IntKind.i64 (s : Int) (t : Int) == (t : Int)) = sub t s := by
  have h1 := List.all_eq_true.1 (List.all_eq_true.1 andBit_all s (List.mem_range.2 hs)) t (List.mem_range.2 ht)
  unfold andBit at h1
  simpa using h1
theorem zs_at7 {l : List Nat} {k : Nat} {x : Int} (h : (zs l)[k]? = some x) : ∃ n : Nat, x = (n : Int) ∧ l[k]? = some n := by
  simp only [zs, List.getElem?_map, Option.map_eq_some_iff] at h
  obtain ⟨n, hn, rfl⟩ := h
  exact ⟨n, rfl, hn⟩

end Go.Proofs.YtmkacjpjcfffmaaDoor
